/- The walk of the law NetCuts. -/
import Derived.Test.YtgphlopbbmjdhaaKOrd
import Derived.Test.YtgphlopbbmjdhaaOpen
import Derived.Test.YtgphlopbbmjdhaaSmall
import Derived.Deep.DeepCutAuto
import Derived.StillTailTactics
namespace Go.Proofs.Ytgphlopbbmjdhaa
open Go.RowKit Go.Conc
set_option linter.unusedVariables false
set_option linter.unusedSimpArgs false

/-- A net's own blocks were all made behind a world. -/
theorem below_net {w w1 w2 : World} {L : Lay} (B : Below w.heap.size w w1) (hc : ∀ k, L.blk k → w.heap.size ≤ k) {S : Nat → Prop} (K : Keep S w1 w2) (hS : ∀ k, S k → L.blk k) : Below w.heap.size w w2 :=
  B.trans (K.below B.size (fun k hk e => by have := hc k (hS k e); omega))

/-- A message that is small, sent anywhere: the net is a net behind it. -/
theorem send_try (L : Lay) (q : Nat → List Qm) (f t : Int) (m : Qm) (w : World) (h : NetAt w L q) (hm : MsgOk w m) (hf : m.few = true) :
    Calls Try.prog 11 #[.pointer (some ⟨L.b, 0, none⟩), .int .i64 f, .int .i64 t, .agg #[.int .i64 m.kind, .int .i64 m.txn, .int .i64 m.page, .int .i64 m.dst, .bool m.fast, .int .u64 m.lsn, .slice m.wa m.wl m.wc, .slice m.pa m.pl m.pc, .string m.body]] w fun e w' =>
      ∃ r q', e = .returned (.int .i64 r) ∧ NetAt w' L q' ∧ Keep L.blk w w' := by
  obtain ⟨ws, ps, hw, hp⟩ := hm
  simp only [Qm.few, decide_eq_true_eq] at hf
  rcases hr : rowIx L.n f t with _ | i
  · refine (send_none L q f t m _ _ _ _ _ _ w h hr).mono fun e w' ⟨he, hk⟩ => ⟨1, q, he, h.keep hk (fun _ _ h => h), hk.mono (fun _ h => h.elim)⟩
  · rcases (by have := h.len i (rowIx_lt hr); omega : (q i).length < 256 ∨ (q i).length = 256) with hroom | hfull
    · refine (send_ok L q f t i m _ _ _ _ _ _ _ _ w h hr hroom hw (by omega) hp (by omega)).mono fun e w' ⟨he, g1, c1, g2, c2, hN, hk, _⟩ => ⟨0, _, he, hN, hk.mono (fun k e => .inr (.inr (.inr ⟨i, rowIx_lt hr, e⟩)))⟩
    · refine (send_full L q f t i m _ _ _ _ _ _ _ _ w h hr hfull hw (by omega) hp (by omega)).mono fun e w' ⟨he, hk⟩ => ⟨7, q, he, h.keep hk (fun _ _ h => h), hk.mono (fun _ h => h.elim)⟩

/-- What a row more or less makes in the sum. -/
theorem sumTo_put (q : Nat → List Qm) (i : Nat) (l : List Qm) (n : Nat) (hi : i < 2 * n) : ∀ k, k ≤ n → sumTo (put q i l) n k + (if i < k ∨ (n ≤ i ∧ i < n + k) then (q i).length else 0) = sumTo q n k + (if i < k ∨ (n ≤ i ∧ i < n + k) then l.length else 0)
  | 0, _ => by simp [sumTo]; rw [if_neg (by omega), if_neg (by omega)]
  | k + 1, hk => by
    have ih := sumTo_put q i l n hi k (by omega)
    simp only [sumTo]
    by_cases h1 : k = i
    · subst h1
      rw [put_self, put_other _ _ (by omega : n + k ≠ k), if_pos (by omega), if_pos (by omega)]
      rw [if_neg (by omega), if_neg (by omega)] at ih
      omega
    · by_cases h2 : n + k = i
      · subst h2
        rw [put_self, put_other _ _ (by omega : k ≠ n + k), if_pos (by omega), if_pos (by omega)]
        rw [if_neg (by omega), if_neg (by omega)] at ih
        omega
      · rw [put_other _ _ h1, put_other _ _ h2]
        by_cases h3 : i < k ∨ (n ≤ i ∧ i < n + k)
        · rw [if_pos (by omega), if_pos (by omega)]
          rw [if_pos h3, if_pos h3] at ih
          omega
        · rw [if_neg (by omega), if_neg (by omega)]
          rw [if_neg h3, if_neg h3] at ih
          omega

theorem sum_put (q : Nat → List Qm) (i : Nat) (l : List Qm) (n : Nat) (hi : i < 2 * n) : sumTo (put q i l) n n + (q i).length = sumTo q n n + l.length := by
  have := sumTo_put q i l n hi n (Nat.le_refl _)
  rwa [if_pos (by omega), if_pos (by omega)] at this

set_option maxHeartbeats 1000000 in
set_option maxRecDepth 100000 in
theorem netCuts_walk (n : Int) (a : Option Addr) (len cap : Nat) (ops : Nat → OpV) (inst : Int) (w : World) (hm : len ≤ 9223372036854775807) (ha : ArgOps w a len ops) (hok : ∀ j, j < len → MsgOk w (ops j).m) :
    Calls Try.prog 6 #[.int .i64 n, .slice a len cap, .int .i64 inst] w fun e w' => e = .returned (.bool true) ∧ Below w.heap.size w w' := by
  have HL := Lib.hid lives_yes
  have HA := Lib.hid ha
  have HK := Lib.hid hok
  have H1 := Lib.hid (ordered_any n a len cap ops inst true true w hm ha)
  have H2 := Lib.hid (fun w ha => ordered_any n a len cap ops inst false true w hm ha)
  clear ha hok
  go_enter Try.func6, Try.ntmps6
  go_wp2_with fail
  refine (H1.out).mono ?_
  rintro e w1 ⟨rfl, hb⟩
  have B1 := Lib.hid hb
  clear hb
  go_wp2_with fail
  refine (H2.out _ (HA.out.below B1.out)).mono ?_
  rintro e w2 ⟨rfl, hb⟩
  have B2 : Hid (Below w.heap.size w w2) := B1.out.trans (hb.mono B1.out.size)
  clear hb B1 H1 H2
  by_cases hn : 1 ≤ n ∧ n ≤ 8
  · obtain ⟨m, rfl⟩ : ∃ m : Nat, n = m := ⟨n.toNat, by omega⟩
    have HN := Lib.hid (fun w => new_yes m w (by omega) (by omega))
    rcases (by omega : inst < 1 ∨ (1 ≤ inst ∧ (m : Int) < inst) ∨ (1 ≤ inst ∧ inst ≤ m)) with h1 | ⟨h1, h2⟩ | ⟨h1, h2⟩
    · go_wp2_with fail
      refine (HN.out _).mono ?_
      rintro e w3 ⟨L, rfl, hn, hN, hK, hB⟩
      have B3 := Lib.hid (keep0_below B2.out hK)
      clear hn hN hK hB
      go_wp2_with fail
      refine (HL.out _).mono ?_
      rintro e w' ⟨rfl, hkp⟩
      go_wp2_with fail
      go_ret
      exact ⟨rfl, keep0_below B3.out hkp⟩
    · go_wp2_with fail
      refine (HN.out _).mono ?_
      rintro e w3 ⟨L, rfl, hn, hN, hK, hB⟩
      have B3 := Lib.hid (keep0_below B2.out hK)
      clear hn hN hK hB
      go_wp2_with fail
      refine (HL.out _).mono ?_
      rintro e w' ⟨rfl, hkp⟩
      go_wp2_with fail
      go_ret
      exact ⟨rfl, keep0_below B3.out hkp⟩
    · go_wp2_with fail
      refine (HN.out _).mono ?_
      rintro e w3 ⟨L, rfl, hn, hN, hK, hB⟩
      have B3 := Lib.hid (keep0_below B2.out hK)
      have N3 := Lib.hid hN
      have HB : Hid (∀ k, L.blk k → w.heap.size ≤ k) := fun k hk => Nat.le_trans B2.out.size (hB k hk)
      have NN := Lib.hid hn
      clear hK hN hB hn
      go_wp2_with fail
      go_loopw [9] (fun i wr => ∃ (k : Nat) (q : Nat → List Qm), k ≤ len ∧ k ≤ 60 ∧ i = .int .i64 k ∧ NetAt wr L q ∧ Below w.heap.size w wr) (fun i _ => len - (intOf i).toNat)
      case atStart => exact ⟨0, fun _ => [], Nat.zero_le _, Nat.zero_le _, rfl, N3.out, B3.out⟩
      case round =>
        obtain ⟨k, q, hk, hk1, rfl, hN, hB⟩ := hrel
        rcases (by omega : (k < len ∧ k < 60) ∨ (k < len ∧ 60 ≤ k) ∨ len ≤ k) with ⟨hlt, hlt1⟩ | ⟨hlt, hge⟩ | hge
        · obtain ⟨b, off, rfl, hcells⟩ := HA.out.at hB hlt
          have hmsg := (HK.out k hlt).below hB
          obtain ⟨⟨kd, fr, de, nn, ms⟩, hv⟩ : ∃ v, v = ops k := ⟨_, rfl⟩
          rw [← hv] at hcells hmsg
          clear hv
          have O := Lib.hid hcells
          obtain ⟨c0, c1, c2, c3, c4, c5, c6, c7, c8, c9, c10, c11, c12⟩ := hcells
          simp only at c0 c1 c2 c3 c4 c5 c6 c7 c8 c9 c10 c11 c12 hmsg
          have N := Lib.hid hN
          have B := Lib.hid hB
          have M := Lib.hid hmsg
          clear hN hB hmsg
          by_cases hk0 : kd = 0
          · subst hk0
            go_wp2_with fail
            refine (small_any ms _).mono ?_
            rintro e w4 ⟨rfl, hkp⟩
            have N4 := Lib.hid (N.out.keep hkp (fun _ _ h => h))
            have B4 := Lib.hid (keep0_below B.out hkp)
            have M4 := Lib.hid (M.out.below (hkp.below (Nat.le_refl _) (fun k hk e => e)))
            clear c0 c1 c2 c3 c4 c5 c6 c7 c8 c9 c10 c11 c12
            obtain ⟨c0, c1, c2, c3, c4, c5, c6, c7, c8, c9, c10, c11, c12⟩ := O.out.below (hkp.below (Nat.le_refl _) (fun k hk e => e))
            simp only at c0 c1 c2 c3 c4 c5 c6 c7 c8 c9 c10 c11 c12
            clear hkp
            rcases hfew : ms.few with _ | _
            · go_wp2_with fail
              go_roundw
              case rel => exact ⟨k + 1, q, by omega, by omega, by go_num, N4.out, B4.out⟩
              case measure => simp [intOf]; omega
            · have F := Lib.hid hfew
              clear hfew
              go_wp2_with fail
              go_still_tail 16, (by kernel_rfl)
              change wpList _ _ _ _ _ w4.drew
              have N5 := Lib.hid (N4.out.keep (Keep.refl (fun _ => False) w4).drew (fun _ _ h => h))
              have B5 := Lib.hid (keep0_below B4.out (Keep.refl (fun _ => False) w4).drew)
              have M5 := Lib.hid (M4.out.below ((Keep.refl (fun _ => False) w4).drew.below (Nat.le_refl _) (fun k hk e => e)))
              clear N4 B4 M4 c0 c1 c2 c3 c4 c5 c6 c7 c8 c9 c10 c11 c12
              generalize w4.drew = w5 at N5 B5 M5 ⊢
              go_wp2_with fail
              refine (send_try L q _ _ ms _ N5.out M5.out F.out).mono ?_
              rintro e w6 ⟨r, q', rfl, hN, hK⟩
              have N6 := Lib.hid hN
              have B6 := Lib.hid (below_net B5.out HB.out hK (fun _ h => h))
              clear hN hK
              go_wp2_with fail
              go_roundw
              case rel => exact ⟨k + 1, q', by omega, by omega, by go_num, N6.out, B6.out⟩
              case measure => simp [intOf]; omega
          · have hk0b : (kd == 0) = false := by rw [beq_eq_false_iff_ne]; exact hk0
            clear hk0
            go_wp2_with fail
            go_roundw
            case rel => exact ⟨k + 1, q, by omega, by omega, by go_num, N.out, B.out⟩
            case measure => simp [intOf]; omega
        all_goals
          obtain ⟨iu, hru⟩ : ∃ i, rowIx L.n inst 0 = some i := by
            unfold rowIx; rw [if_neg (by omega), if_pos ⟨rfl, h1, by rw [NN.out]; exact h2⟩]; exact ⟨_, rfl⟩
          obtain ⟨id, hrd⟩ : ∃ i, rowIx L.n 0 inst = some i := by
            unfold rowIx; rw [if_pos ⟨rfl, h1, by rw [NN.out]; exact h2⟩]; exact ⟨_, rfl⟩
          have n3 : iu ≠ id := fun e => by subst e; have := rowIx_inj hru hrd; omega
          have hiu := rowIx_lt hru
          have hid := rowIx_lt hrd
          have s1 := sum_put q iu [] L.n hiu
          have s2 := sum_put (put q iu []) id [] L.n hid
          rw [put_other _ _ (Ne.symm n3)] at s2
          simp only [List.length_nil, Nat.add_zero] at s1 s2
          have hsb := sumTo_le q L.n hN.len L.n (Nat.le_refl _)
          have h8 := hN.pos.2
          have lu := hN.len iu hiu
          have ld := hN.len id hid
          obtain ⟨q2, hq2⟩ : ∃ q2, q2 = put (put q iu []) id [] := ⟨_, rfl⟩
          have QU : Hid (q2 iu = []) := by subst hq2; rw [put_other _ _ n3, put_self]; exact rfl
          have QD : Hid (q2 id = []) := by subst hq2; rw [put_self]; exact rfl
          rw [← hq2] at s2
          obtain ⟨s, hs⟩ : ∃ s : Nat, sumTo q L.n L.n = s := ⟨_, rfl⟩
          obtain ⟨x, hx⟩ : ∃ x : Nat, (q iu).length = x := ⟨_, rfl⟩
          obtain ⟨y, hy⟩ : ∃ y : Nat, (q id).length = y := ⟨_, rfl⟩
          have e1 : ((sumTo q2 L.n L.n : Nat) : Int) = s - (y + x) := by omega
          have b1 : (s : Int) ≤ 4096 := by omega
          have b2 : (x : Int) ≤ 256 := by omega
          have b3 : (y : Int) ≤ 256 := by omega
          have S1 := Lib.hid e1
          have HS := Lib.hid hs
          have HX := Lib.hid hx
          have HY := Lib.hid hy
          have HQ := Lib.hid hq2
          have N := Lib.hid hN
          have B := Lib.hid hB
          have N3 := Lib.hid n3
          have RU := Lib.hid hru
          have RD := Lib.hid hrd
          have HI := Lib.hid (And.intro hiu hid)
          clear hN hB s1 s2 e1 n3 hru hrd hiu hid hsb h8 lu ld hs hx hy hq2
          go_wp2_with fail
          refine (sum_any L q _ N.out).mono ?_
          rintro e w4 ⟨rfl, d, hd⟩
          have N4 : Hid (NetAt w4 L q) := by subst hd; exact N.out.keep ((Keep.refl (fun _ => False) _).drewN d) (fun _ _ h => h)
          have B4 : Hid (Below w.heap.size w w4) := by subst hd; exact keep0_below B.out ((Keep.refl (fun _ => False) _).drewN d)
          clear hd
          rw [HS.out]
          go_wp2_with fail
          refine (len_some L q _ _ id _ N4.out RD.out).mono ?_
          rintro e w' ⟨rfl, rfl⟩
          rw [HY.out]
          go_wp2_with fail
          refine (len_some L q _ _ iu _ N4.out RU.out).mono ?_
          rintro e w' ⟨rfl, rfl⟩
          rw [HX.out]
          go_wp2_with fail
          refine (cut_some L q _ iu id _ N4.out RU.out RD.out N3.out).mono ?_
          rintro e w5 ⟨rfl, hN, hK⟩
          rw [HX.out, HY.out, Int.add_comm (x : Int) (y : Int)]
          rw [← HQ.out] at hN
          have N5 := Lib.hid hN
          have B5 := Lib.hid (below_net B4.out HB.out hK (fun k e => .inr (.inr (.inr (e.elim (fun e => ⟨iu, HI.out.1, e⟩) (fun e => ⟨id, HI.out.2, e⟩))))))
          clear hN hK
          go_wp2_with fail
          refine (sum_any L q2 _ N5.out).mono ?_
          rintro e w6 ⟨rfl, d, hd⟩
          have N6 : Hid (NetAt w6 L q2) := by subst hd; exact N5.out.keep ((Keep.refl (fun _ => False) _).drewN d) (fun _ _ h => h)
          have B6 : Hid (Below w.heap.size w w6) := by subst hd; exact keep0_below B5.out ((Keep.refl (fun _ => False) _).drewN d)
          clear hd
          rw [S1.out]
          go_wp2_with fail
          refine (len_some L q2 _ _ id _ N6.out RD.out).mono ?_
          rintro e w' ⟨rfl, rfl⟩
          rw [QD.out, List.length_nil]
          go_wp2_with fail
          refine (len_some L q2 _ _ iu _ N6.out RU.out).mono ?_
          rintro e w' ⟨rfl, rfl⟩
          rw [QU.out, List.length_nil]
          go_wp2_with fail
          refine (send_plain L q2 _ _ iu _ _ _ _ N6.out RU.out (by rw [QU.out]; exact Nat.zero_lt_succ _)).mono ?_
          rintro e w7 ⟨rfl, z, _, _, _, hN, hK⟩
          have N7 := Lib.hid hN
          have B7 := Lib.hid (below_net B6.out HB.out hK (fun k e => .inr (.inr (.inr ⟨iu, HI.out.1, e⟩))))
          clear hN hK
          go_wp2_with fail
          refine (len_some L _ _ _ iu _ N7.out RU.out).mono ?_
          rintro e w' ⟨rfl, rfl⟩
          rw [put_self, QU.out]
          go_wp2_with fail
          refine (cut_zero _ _).mono ?_
          rintro e w' ⟨rfl, rfl⟩
          go_wp2_with fail
          refine (HL.out _).mono ?_
          rintro e w' ⟨rfl, hkp⟩
          go_wp2_with fail
          go_ret
          exact ⟨rfl, keep0_below B7.out hkp⟩
  · have HN := Lib.hid (fun w => new_no n w hn)
    clear hn
    go_wp2_with fail
    refine (HN.out _).mono ?_
    rintro e w1 ⟨rfl, rfl⟩
    go_wp2_with fail
    refine (HL.out _).mono ?_
    rintro e w' ⟨rfl, hkp⟩
    go_wp2_with fail
    go_ret
    exact ⟨rfl, keep0_below B2.out hkp⟩

end Go.Proofs.Ytgphlopbbmjdhaa
