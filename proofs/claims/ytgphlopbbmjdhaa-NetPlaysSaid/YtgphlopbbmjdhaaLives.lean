/- Messages without lists, sent; and the law's own example. -/
import Derived.Test.YtgphlopbbmjdhaaNew
import Derived.Test.YtgphlopbbmjdhaaTake
namespace Go.Proofs.Ytgphlopbbmjdhaa
open Go.RowKit Go.Conc
set_option linter.unusedVariables false
set_option linter.unusedSimpArgs false

/-- A message of a kind, a number and a text, without lists. -/
def plain (kind txn : Int) (body : ByteArray) : Qm := ⟨kind, txn, 0, 0, false, 0, none, 0, 0, none, 0, 0, body⟩

theorem send_plain (L : Lay) (q : Nat → List Qm) (f t : Int) (i : Nat) (kind txn : Int) (body : ByteArray) (w : World) (h : NetAt w L q) (hr : rowIx L.n f t = some i) (hroom : (q i).length < 256) :
    Calls Try.prog 11 #[.pointer (some ⟨L.b, 0, none⟩), .int .i64 f, .int .i64 t, .agg #[.int .i64 kind, .int .i64 txn, .int .i64 0, .int .i64 0, .bool false, .int .u64 0, .slice none 0 0, .slice none 0 0, .string body]] w fun e w' =>
      e = .returned (.int .i64 0) ∧ ∃ x : Qm, x.kind = kind ∧ x.txn = txn ∧ x.body = body ∧ NetAt w' L (put q i (q i ++ [x])) ∧ Keep (fun k => k = L.c i) w w' :=
  (send_ok L q f t i (plain kind txn body) none none 0 0 0 0 [] [] w h hr hroom (.inl ⟨rfl, rfl, rfl, rfl⟩) (by omega) (.inl ⟨rfl, rfl, rfl, rfl⟩) (by omega)).mono
    fun e w' ⟨he, g1, c1, g2, c2, hN, hK, _⟩ => ⟨he, _, rfl, rfl, rfl, hN, hK⟩

theorem send_plain_full (L : Lay) (q : Nat → List Qm) (f t : Int) (i : Nat) (kind txn : Int) (body : ByteArray) (w : World) (h : NetAt w L q) (hr : rowIx L.n f t = some i) (hfull : (q i).length = 256) :
    Calls Try.prog 11 #[.pointer (some ⟨L.b, 0, none⟩), .int .i64 f, .int .i64 t, .agg #[.int .i64 kind, .int .i64 txn, .int .i64 0, .int .i64 0, .bool false, .int .u64 0, .slice none 0 0, .slice none 0 0, .string body]] w fun e w' =>
      e = .returned (.int .i64 7) ∧ Keep (fun _ => False) w w' :=
  send_full L q f t i (plain kind txn body) none none 0 0 0 0 [] [] w h hr hfull (.inl ⟨rfl, rfl, rfl, rfl⟩) (by omega) (.inl ⟨rfl, rfl, rfl, rfl⟩) (by omega)

theorem send_plain_none (L : Lay) (q : Nat → List Qm) (f t : Int) (kind txn : Int) (body : ByteArray) (w : World) (h : NetAt w L q) (hr : rowIx L.n f t = none) :
    Calls Try.prog 11 #[.pointer (some ⟨L.b, 0, none⟩), .int .i64 f, .int .i64 t, .agg #[.int .i64 kind, .int .i64 txn, .int .i64 0, .int .i64 0, .bool false, .int .u64 0, .slice none 0 0, .slice none 0 0, .string body]] w fun e w' =>
      e = .returned (.int .i64 1) ∧ Keep (fun _ => False) w w' :=
  send_none L q f t (plain kind txn body) none none 0 0 0 0 w h hr

theorem put_self (q : Nat → List Qm) (i : Nat) (l : List Qm) : put q i l i = l := by simp [put]
theorem put_put (q : Nat → List Qm) (i : Nat) (l l' : List Qm) : put (put q i l) i l' = put q i l' := by
  funext k; by_cases h : k = i <;> simp [put, h]
theorem put_other (q : Nat → List Qm) {i j : Nat} (l : List Qm) (h : j ≠ i) : put q i l j = q j := by simp [put, h]

set_option maxHeartbeats 1000000 in
set_option maxRecDepth 100000 in
theorem lives_yes (w : World) :
    Calls Try.prog 10 #[] w fun e w' => e = .returned (.bool true) ∧ Keep (fun _ => False) w w' := by
  have HN := Lib.hid (fun w => new_yes 2 w (by omega) (by omega))
  go_enter Try.func10, Try.ntmps10
  go_wp2_with fail
  refine (HN.out _).mono ?_
  rintro e w1 ⟨L, rfl, hn, hN, hK, hB⟩
  have K1 := Lib.hid hK
  have N1 := Lib.hid hN
  have B1 := Lib.hid hB
  have r12 : Hid (rowIx L.n 1 2 = none) := by show rowIx L.n 1 2 = none; rw [hn]; rfl
  have r01 : Hid (rowIx L.n 0 1 = some 2) := by show rowIx L.n 0 1 = some 2; rw [hn]; rfl
  have hc := hB _ (.inr (.inr (.inr ⟨2, by omega, rfl⟩)))
  clear hK hN hB hn HN
  go_wp2_with fail
  refine (send_plain_none L _ 1 2 0 0 ⟨#[]⟩ _ N1.out r12.out).mono ?_
  rintro e w2 ⟨rfl, hk⟩
  have N2 := Lib.hid (N1.out.keep hk (fun _ _ h => h))
  have K2 := Lib.hid (K1.out.none_trans hk)
  clear hk
  go_wp2_with fail
  refine (send_plain L _ 0 1 2 5 0 ⟨#[]⟩ _ N2.out r01.out (by simp)).mono ?_
  rintro e w3 ⟨rfl, x, hx, _, _, hN, hk⟩
  have N3 := Lib.hid hN
  have K3 : Hid (Keep (fun _ => False) w w3) := K2.out.trans hk (fun i e => .inr (by omega))
  have hx5 : (x.kind == 5) = true := by rw [beq_iff_eq]; exact hx
  clear hk hN hx
  go_wp2_with fail
  refine (send_plain L _ 0 1 2 6 0 ⟨#[]⟩ _ N3.out r01.out (by simp [put])).mono ?_
  rintro e w4 ⟨rfl, y, _, _, _, hN, hk⟩
  rw [put_put, put_self] at hN
  have N4 := Lib.hid hN
  have K4 : Hid (Keep (fun _ => False) w w4) := K3.out.trans hk (fun i e => .inr (by omega))
  clear hk hN
  go_wp2_with fail
  refine (take_some L _ 0 1 2 x [y] _ N4.out r01.out (by simp [put])).mono ?_
  rintro e w5 ⟨rfl, hN, hk⟩
  rw [put_put] at hN
  have N5 := Lib.hid hN
  have K5 : Hid (Keep (fun _ => False) w w5) := K4.out.trans hk (fun i e => .inr (by omega))
  clear hk hN
  go_wp2_with fail
  refine (len_some L _ 0 1 2 _ (N5.out.keep ((Keep.refl (fun _ => False) _).alloc _) (fun _ _ h => h)) r01.out).mono ?_
  rintro e w' ⟨rfl, rfl⟩
  rw [put_self]
  go_wp2_with fail
  go_ret
  exact ⟨rfl, K5.out.alloc _⟩

end Go.Proofs.Ytgphlopbbmjdhaa
