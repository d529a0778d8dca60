/- The walk of the law NetFull: it returns true, and writes nothing that was there. -/
import Derived.Test.YtgphlopbbmjdhaaLives
namespace Go.Proofs.Ytgphlopbbmjdhaa
open Go.RowKit Go.Conc
set_option linter.unusedVariables false
set_option linter.unusedSimpArgs false

theorem keep_below {w w1 w2 : World} {i : Nat} (B : Below w.heap.size w w1) (K : Keep (fun k => k = i) w1 w2) (hi : w.heap.size ≤ i) : Below w.heap.size w w2 :=
  B.trans (K.below B.size (fun k hk e => by omega))
theorem keep0_below {w w1 w2 : World} (B : Below w.heap.size w w1) (K : Keep (fun _ => False) w1 w2) : Below w.heap.size w w2 :=
  B.trans (K.below B.size (fun k hk e => e))

theorem sumTo_zero (n : Nat) : ∀ k, sumTo (fun _ => []) n k = 0
  | 0 => rfl
  | k + 1 => by simp [sumTo, sumTo_zero n k]

theorem sumTo_one (i : Nat) (l : List Qm) (n : Nat) (hi : i < 2 * n) : ∀ k, k ≤ n → sumTo (put (fun _ => []) i l) n k = if i < k ∨ (n ≤ i ∧ i < n + k) then l.length else 0
  | 0, _ => by simp [sumTo]; omega
  | k + 1, hk => by
    rw [sumTo, sumTo_one i l n hi k (by omega)]
    by_cases h1 : k = i
    · subst h1
      rw [put_self, put_other _ _ (by omega)]
      rw [if_neg (by omega), if_pos (by omega)]; simp
    · by_cases h2 : n + k = i
      · subst h2
        rw [put_self, put_other _ _ (by omega)]
        rw [if_neg (by omega), if_pos (by omega)]; simp
      · rw [put_other _ _ h1, put_other _ _ h2]
        by_cases h3 : i < k ∨ (n ≤ i ∧ i < n + k)
        · rw [if_pos h3, if_pos (by omega)]; simp
        · rw [if_neg h3, if_neg (by omega)]; simp

set_option maxHeartbeats 1000000 in
set_option maxRecDepth 100000 in
theorem netFull_no (n inst : Int) (up : Bool) (w : World) (h : ¬ (1 ≤ n ∧ n ≤ 8 ∧ 1 ≤ inst ∧ inst ≤ n)) :
    Calls Try.prog 3 #[.int .i64 n, .int .i64 inst, .bool up] w fun e w' => e = .returned (.bool true) ∧ Below w.heap.size w w' := by
  have HL := Lib.hid lives_yes
  by_cases hn : 1 ≤ n ∧ n ≤ 8
  · obtain ⟨m, rfl⟩ : ∃ m : Nat, n = m := ⟨n.toNat, by omega⟩
    have HN := Lib.hid (fun w => new_yes m w (by omega) (by omega))
    rcases (by omega : inst < 1 ∨ (1 ≤ inst ∧ (m : Int) < inst)) with h1 | ⟨h1, h2⟩
    all_goals
      clear h
      go_enter Try.func3, Try.ntmps3
      go_wp2_with fail
      refine (HN.out _).mono ?_
      rintro e w1 ⟨L, rfl, hn, hN, hK, hB⟩
      have K1 := Lib.hid hK
      clear hn hN hK hB
      go_wp2_with fail
      refine (HL.out _).mono ?_
      rintro e w' ⟨rfl, hkp⟩
      go_wp2_with fail
      go_ret
      exact ⟨rfl, keep0_below (keep0_below (Below.refl _ _) K1.out) hkp⟩
  · have HN := Lib.hid (fun w => new_no n w hn)
    clear h hn
    go_enter Try.func3, Try.ntmps3
    go_wp2_with fail
    refine (HN.out _).mono ?_
    rintro e w1 ⟨rfl, rfl⟩
    go_wp2_with fail
    refine (HL.out _).mono ?_
    rintro e w' ⟨rfl, hkp⟩
    go_wp2_with fail
    go_ret
    exact ⟨rfl, keep0_below (Below.refl _ _) hkp⟩

/-- Those that were sent bear their numbers. -/
def Nums (l : List Qm) (k : Nat) : Prop := l.length = k ∧ ∀ (j : Nat) (x : Qm), l[j]? = some x → x.txn = (j : Int)

theorem Nums.snoc {l : List Qm} {k : Nat} {x : Qm} (h : Nums l k) (hx : x.txn = (k : Int)) : Nums (l ++ [x]) (k + 1) := by
  refine ⟨by simp [h.1], fun j y hy => ?_⟩
  rw [List.getElem?_append] at hy
  split at hy
  · exact h.2 j y hy
  · have hl := h.1
    rcases (by omega : j = l.length ∨ l.length < j) with e | e
    · subst e; simp at hy; subst hy; rw [hx]; omega
    · rw [List.getElem?_eq_none (by simp; omega)] at hy; simp at hy

set_option maxHeartbeats 4000000 in
set_option maxRecDepth 100000 in
theorem netFull_yes (m : Nat) (inst : Int) (up : Bool) (w : World) (h1 : 1 ≤ m) (h8 : m ≤ 8) (i1 : 1 ≤ inst) (im : inst ≤ m) :
    Calls Try.prog 3 #[.int .i64 m, .int .i64 inst, .bool up] w fun e w' => e = .returned (.bool true) ∧ Below w.heap.size w w' := by
  have HL := Lib.hid lives_yes
  have HN := Lib.hid (fun w => new_yes m w h1 h8)
  go_enter Try.func3, Try.ntmps3
  go_wp2_with fail
  refine (HN.out _).mono ?_
  rintro e w1 ⟨L, rfl, hn, hN, hK, hB⟩
  have B1 : Hid (Below w.heap.size w w1) := keep0_below (Below.refl _ _) hK
  have N1 := Lib.hid hN
  have HB := Lib.hid hB
  obtain ⟨f, t, i0, hft⟩ : ∃ f t i0, Hid (((up = true ∧ f = inst ∧ t = 0) ∨ (up = false ∧ f = 0 ∧ t = inst)) ∧ rowIx L.n f t = some i0) := by
    cases up
    · refine ⟨0, inst, L.n + (inst - 1).toNat, .inr ⟨rfl, rfl, rfl⟩, ?_⟩
      unfold rowIx; rw [if_pos ⟨rfl, i1, by rw [hn]; exact im⟩]
    · refine ⟨inst, 0, (inst - 1).toNat, .inl ⟨rfl, rfl, rfl⟩, ?_⟩
      unfold rowIx; rw [if_neg (by omega), if_pos ⟨rfl, i1, by rw [hn]; exact im⟩]
  have HR := Lib.hid hft.out.2
  have hc : w.heap.size ≤ L.c i0 := hB _ (.inr (.inr (.inr ⟨i0, rowIx_lt HR.out, rfl⟩)))
  have HS := Lib.hid (sumTo_one i0 · L.n (rowIx_lt HR.out) L.n (Nat.le_refl _))
  rcases hft.out.1 with ⟨rfl, rfl, rfl⟩ | ⟨rfl, rfl, rfl⟩
  all_goals
    clear hn hN hK hB hft
    go_wp2_with fail
    go_loopw [11] (fun i wr => ∃ (k : Nat) (l : List Qm), k ≤ 256 ∧ i = .int .i64 k ∧ Nums l k ∧ NetAt wr L (put (fun _ => []) i0 l) ∧ Below w.heap.size w wr) (fun i _ => 256 - (intOf i).toNat)
    case atStart =>
      refine ⟨0, [], by omega, rfl, ⟨rfl, fun j x hx => by simp at hx⟩, ?_, B1.out⟩
      have : put (fun _ => []) i0 ([] : List Qm) = fun _ => [] := by funext k; simp [put]
      rw [this]; exact N1.out
    case round =>
      obtain ⟨k, l, hk, rfl, hl, hN, hB⟩ := hrel
      have N := Lib.hid hN
      have B := Lib.hid hB
      have HLn := Lib.hid hl
      clear hN hB hl
      by_cases hlt : k < 256
      · go_wp2_with fail
        refine (send_plain L _ _ _ i0 0 k ⟨#[]⟩ _ N.out HR.out (by rw [put_self, HLn.out.1]; exact hlt)).mono ?_
        rintro e w2 ⟨rfl, x, _, hx, _, hN, hk2⟩
        rw [put_put, put_self] at hN
        have N2 := Lib.hid hN
        have B2 := Lib.hid (keep_below B.out hk2 hc)
        have L2 := Lib.hid (HLn.out.snoc hx)
        clear hN hk2 hx
        go_wp2_with fail
        go_roundw
        case rel => exact ⟨k + 1, l ++ [x], by omega, by go_num, L2.out, N2.out, B2.out⟩
        case measure => simp [intOf]; omega
      · obtain rfl : k = 256 := by omega
        clear hlt hk
        obtain ⟨x0, rest, rfl⟩ : ∃ x rest, l = x :: rest := by
          cases l with
          | nil => have := HLn.out.1; simp at this
          | cons x rest => exact ⟨x, rest, rfl⟩
        have h0 : (x0.txn == 0) = true := by rw [beq_iff_eq]; exact HLn.out.2 0 x0 rfl
        have hr : Hid (rest.length = 255) := by have := HLn.out.1; simp at this; exact this
        go_wp2_with fail
        refine (send_plain_full L _ _ _ i0 0 256 ⟨#[]⟩ _ N.out HR.out (by rw [put_self]; exact HLn.out.1)).mono ?_
        rintro e w2 ⟨rfl, hk2⟩
        have N2 := Lib.hid (N.out.keep hk2 (fun _ _ h => h))
        have B2 := Lib.hid (keep0_below B.out hk2)
        clear hk2
        go_wp2_with fail
        refine (len_some L _ _ _ i0 _ N2.out HR.out).mono ?_
        rintro e w' ⟨rfl, rfl⟩
        rw [put_self, HLn.out.1]
        go_wp2_with fail
        refine (take_some L _ _ _ i0 x0 rest _ N2.out HR.out (put_self _ _ _)).mono ?_
        rintro e w3 ⟨rfl, hN, hk3⟩
        rw [put_put] at hN
        have N3 := Lib.hid (hN.keep ((Keep.refl (fun _ => False) _).alloc (.cells #[.int .i64 x0.kind, .int .i64 x0.txn, .int .i64 x0.page, .int .i64 x0.dst, .bool x0.fast, .int .u64 x0.lsn, .slice x0.wa x0.wl x0.wc, .slice x0.pa x0.pl x0.pc, .string x0.body] 33)) (fun _ _ h => h))
        have B3 := Lib.hid ((keep_below B2.out hk3 hc).alloc (keep_below B2.out hk3 hc).size (.cells #[.int .i64 x0.kind, .int .i64 x0.txn, .int .i64 x0.page, .int .i64 x0.dst, .bool x0.fast, .int .u64 x0.lsn, .slice x0.wa x0.wl x0.wc, .slice x0.pa x0.pl x0.pc, .string x0.body] 33))
        clear hN hk3
        go_wp2_with fail
        refine (send_plain L _ _ _ i0 0 257 ⟨#[]⟩ _ N3.out HR.out (by rw [put_self, hr.out]; omega)).mono ?_
        rintro e w4 ⟨rfl, y, _, _, _, hN, hk4⟩
        rw [put_put, put_self] at hN
        have N4 := Lib.hid hN
        have B4 := Lib.hid (keep_below B3.out hk4 hc)
        clear hN hk4
        go_wp2_with fail
        refine (send_plain_full L _ _ _ i0 0 0 ⟨#[]⟩ _ N4.out HR.out (by rw [put_self]; simp [hr.out])).mono ?_
        rintro e w5 ⟨rfl, hk5⟩
        have N5 := Lib.hid (N4.out.keep hk5 (fun _ _ h => h))
        have B5 := Lib.hid (keep0_below B4.out hk5)
        clear hk5
        go_wp2_with fail
        refine (sum_any L _ _ N5.out).mono ?_
        rintro e w6 ⟨rfl, d, rfl⟩
        have hs : sumTo (put (fun _ => []) i0 (rest ++ [y])) L.n L.n = 256 := by
          rw [HS.out, if_pos (by have := rowIx_lt HR.out; omega)]; simp [hr.out]
        rw [hs]
        have B6 := Lib.hid (below_drewN B5.out d)
        clear hs
        go_wp2_with fail
        refine (HL.out _).mono ?_
        rintro e w' ⟨rfl, hkp⟩
        go_wp2_with fail
        go_ret
        exact ⟨rfl, keep0_below B6.out hkp⟩

end Go.Proofs.Ytgphlopbbmjdhaa
