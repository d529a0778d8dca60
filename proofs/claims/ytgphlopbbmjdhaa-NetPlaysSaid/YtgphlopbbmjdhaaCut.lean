/- Cut of the net: both rows of an instance are emptied; elsewhere nothing is there to be cut. -/
import Derived.Test.YtgphlopbbmjdhaaLives
namespace Go.Proofs.Ytgphlopbbmjdhaa
open Go.RowKit Go.Conc
set_option linter.unusedVariables false
set_option linter.unusedSimpArgs false

set_option maxHeartbeats 1000000 in
theorem cut_zero (v : Option Addr) (w : World) :
    Calls Try.prog 21 #[.pointer v, .int .i64 0] w fun e w' => e = .returned (.int .i64 0) ∧ w = w' := by
  go_enter Try.func21, Try.ntmps21
  go_wp2
  go_ret
  exact ⟨rfl, rfl⟩

set_option maxHeartbeats 1000000 in
set_option maxRecDepth 100000 in
theorem cut_nil (p : Int) (w : World) (hp : p ≠ 0) :
    Calls Try.prog 21 #[.pointer none, .int .i64 p] w fun e w' => e = .returned (.int .i64 0) ∧ Keep (fun _ => False) w w' := by
  have HT := Lib.hid take_nil
  have hb : (p == 0) = false := by rw [beq_eq_false_iff_ne]; exact hp
  clear hp
  go_enter Try.func21, Try.ntmps21
  go_wp2
  refine wp_loop_rounds 1 ?_
  rw [rounds_succ]
  go_wp2_with fail
  refine (HT.out _ _ _).mono ?_
  rintro e w1 ⟨rfl, hk1⟩
  have K1 := Lib.hid hk1
  clear hk1
  go_wp2_with fail
  refine (HT.out _ _ _).mono ?_
  rintro e w2 ⟨rfl, hk2⟩
  have K2 := Lib.hid hk2
  clear hk2
  go_wp2_with fail
  go_ret
  exact ⟨rfl, ((K1.out.alloc _).none_trans K2.out).alloc _⟩

set_option maxHeartbeats 1000000 in
set_option maxRecDepth 100000 in
theorem cut_none (L : Lay) (q : Nat → List Qm) (p : Int) (w : World) (h : NetAt w L q) (hp : p ≠ 0) (h1 : rowIx L.n p 0 = none) (h2 : rowIx L.n 0 p = none) :
    Calls Try.prog 21 #[.pointer (some ⟨L.b, 0, none⟩), .int .i64 p] w fun e w' => e = .returned (.int .i64 0) ∧ Keep (fun _ => False) w w' := by
  have T1 := Lib.hid (fun w h => take_none L q p 0 w h h1)
  have T2 := Lib.hid (fun w h => take_none L q 0 p w h h2)
  have N := Lib.hid h
  have hb : (p == 0) = false := by rw [beq_eq_false_iff_ne]; exact hp
  clear hp h1 h2 h
  go_enter Try.func21, Try.ntmps21
  go_wp2
  refine wp_loop_rounds 1 ?_
  rw [rounds_succ]
  go_wp2_with fail
  refine (T1.out _ N.out).mono ?_
  rintro e w1 ⟨rfl, hk1⟩
  have K1 := Lib.hid hk1
  clear hk1
  go_wp2_with fail
  refine (T2.out _ (N.out.keep (K1.out.alloc _) (fun _ _ h => h))).mono ?_
  rintro e w2 ⟨rfl, hk2⟩
  have K2 := Lib.hid hk2
  clear hk2
  go_wp2_with fail
  go_ret
  exact ⟨rfl, ((K1.out.alloc _).none_trans K2.out).alloc _⟩

theorem put_three (q : Nat → List Qm) {i j : Nat} (h : i ≠ j) (l l' m : List Qm) : put (put (put q i l) j m) i l' = put (put q i l') j m := by
  funext k
  by_cases h1 : k = i
  · subst h1; simp [put, h]
  · by_cases h2 : k = j
    · subst h2; simp [put, h1]
    · simp [put, h1, h2]

theorem put_same (q : Nat → List Qm) {i j : Nat} (h : i ≠ j) : put (put q i (q i)) j (q j) = q := by
  funext k
  by_cases h1 : k = i
  · subst h1; simp [put, h]
  · by_cases h2 : k = j
    · subst h2; simp [put]
    · simp [put, h1, h2]

set_option maxHeartbeats 4000000 in
set_option maxRecDepth 100000 in
theorem cut_some (L : Lay) (q : Nat → List Qm) (p : Int) (iu id : Nat) (w : World) (h : NetAt w L q) (h1 : rowIx L.n p 0 = some iu) (h2 : rowIx L.n 0 p = some id) (hne : iu ≠ id) :
    Calls Try.prog 21 #[.pointer (some ⟨L.b, 0, none⟩), .int .i64 p] w fun e w' => e = .returned (.int .i64 ((q iu).length + (q id).length)) ∧ NetAt w' L (put (put q iu []) id []) ∧ Keep (fun k => k = L.c iu ∨ k = L.c id) w w' := by
  have hp : p ≠ 0 := by
    intro e; subst e; simp [rowIx] at h1
  have hb : (p == 0) = false := by rw [beq_eq_false_iff_ne]; exact hp
  have bu := h.len iu (rowIx_lt h1)
  have bd := h.len id (rowIx_lt h2)
  have R1 := Lib.hid h1
  have R2 := Lib.hid h2
  have N := Lib.hid h
  have E0 : Hid (put (put q iu (q iu)) id (q id) = q) := put_same q hne
  obtain ⟨a0, ha⟩ : ∃ a0, a0 = (q iu).length := ⟨_, rfl⟩
  obtain ⟨b0, hb0⟩ : ∃ b0, b0 = (q id).length := ⟨_, rfl⟩
  rw [← ha, ← hb0]
  have A0 := Lib.hid ha
  have B0 := Lib.hid hb0
  rw [← ha] at bu
  rw [← hb0] at bd
  clear hp h1 h2 h ha hb0
  go_enter Try.func21, Try.ntmps21
  go_wp2
  go_loopw [5, 6, 7, 8, 9] (fun n _ _ _ _ wr => ∃ (lu ld : List Qm) (m : Nat), n = .int .i64 m ∧ m + lu.length + ld.length = a0 + b0 ∧ NetAt wr L (put (put q iu lu) id ld) ∧ Keep (fun k => k = L.c iu ∨ k = L.c id) w wr) (fun n _ _ _ _ _ => a0 + b0 - (intOf n).toNat)
  case atStart => exact ⟨q iu, q id, 0, rfl, by rw [A0.out, B0.out]; omega, by rw [E0.out]; exact N.out, Keep.refl _ _⟩
  case round =>
    obtain ⟨lu, ld, m, rfl, hm, hN, hK⟩ := hrel
    have Nr := Lib.hid hN
    have Kr := Lib.hid hK
    have M := Lib.hid hm
    have m1 : m ≤ 600 := by omega
    clear hN hK hm
    have hu : put (put q iu lu) id ld iu = lu := by rw [put_other _ _ hne, put_self]
    have hd : put (put q iu lu) id ld id = ld := put_self _ _ _
    have HU := Lib.hid hu
    have HD := Lib.hid hd
    clear hu hd
    cases hlu : lu with
    | nil =>
      subst hlu
      go_wp2_with fail
      refine (take_empty L _ p 0 iu _ Nr.out R1.out HU.out).mono ?_
      rintro e w1 ⟨rfl, hk1⟩
      have N1 := Lib.hid (Nr.out.keep (hk1.alloc (.cells #[.int .i64 0, .int .i64 0, .int .i64 0, .int .i64 0, .bool false, .int .u64 0, .slice none 0 0, .slice none 0 0, .string ⟨#[]⟩] 33)) (fun _ _ h => h))
      have K1 := Lib.hid (Kr.out.none_trans (hk1.alloc (.cells #[.int .i64 0, .int .i64 0, .int .i64 0, .int .i64 0, .bool false, .int .u64 0, .slice none 0 0, .slice none 0 0, .string ⟨#[]⟩] 33)))
      clear hk1
      cases hld : ld with
      | nil =>
        subst hld
        go_wp2_with fail
        refine (take_empty L _ 0 p id _ N1.out R2.out HD.out).mono ?_
        rintro e w2 ⟨rfl, hk2⟩
        have N2 := Lib.hid (N1.out.keep (hk2.alloc (.cells #[.int .i64 0, .int .i64 0, .int .i64 0, .int .i64 0, .bool false, .int .u64 0, .slice none 0 0, .slice none 0 0, .string ⟨#[]⟩] 33)) (fun _ _ h => h))
        have K2 := Lib.hid (K1.out.none_trans (hk2.alloc (.cells #[.int .i64 0, .int .i64 0, .int .i64 0, .int .i64 0, .bool false, .int .u64 0, .slice none 0 0, .slice none 0 0, .string ⟨#[]⟩] 33)))
        clear hk2
        go_wp2_with fail
        go_ret
        refine ⟨ret_i ?_, N2.out, K2.out⟩
        have := M.out; simp at this; omega
      | cons y rest =>
        subst hld
        go_wp2_with fail
        refine (take_some L _ 0 p id y rest _ N1.out R2.out HD.out).mono ?_
        rintro e w2 ⟨rfl, hN2, hk2⟩
        rw [put_put] at hN2
        have N2 := Lib.hid (hN2.keep ((Keep.refl (fun _ => False) _).alloc (.cells #[.int .i64 y.kind, .int .i64 y.txn, .int .i64 y.page, .int .i64 y.dst, .bool y.fast, .int .u64 y.lsn, .slice y.wa y.wl y.wc, .slice y.pa y.pl y.pc, .string y.body] 33)) (fun _ _ h => h))
        have K2 := Lib.hid ((K1.out.trans hk2 (fun i e => .inl (.inr e))).alloc (.cells #[.int .i64 y.kind, .int .i64 y.txn, .int .i64 y.page, .int .i64 y.dst, .bool y.fast, .int .u64 y.lsn, .slice y.wa y.wl y.wc, .slice y.pa y.pl y.pc, .string y.body] 33))
        have mm : Hid (m + 1 + ([] : List Qm).length + rest.length = a0 + b0) := by show m + 1 + ([] : List Qm).length + rest.length = a0 + b0; have := M.out; simp at this ⊢; omega
        clear hk2 hN2
        go_wp2_with fail
        go_roundw
        case rel => exact ⟨[], rest, m + 1, by go_num, mm.out, N2.out, K2.out⟩
        case measure => have := mm.out; simp at this; simp [intOf]; omega
    | cons x rx =>
      subst hlu
      go_wp2_with fail
      refine (take_some L _ p 0 iu x rx _ Nr.out R1.out HU.out).mono ?_
      rintro e w1 ⟨rfl, hN1, hk1⟩
      rw [put_three q hne] at hN1
      have N1 := Lib.hid (hN1.keep ((Keep.refl (fun _ => False) _).alloc (.cells #[.int .i64 x.kind, .int .i64 x.txn, .int .i64 x.page, .int .i64 x.dst, .bool x.fast, .int .u64 x.lsn, .slice x.wa x.wl x.wc, .slice x.pa x.pl x.pc, .string x.body] 33)) (fun _ _ h => h))
      have K1 := Lib.hid ((Kr.out.trans hk1 (fun i e => .inl (.inl e))).alloc (.cells #[.int .i64 x.kind, .int .i64 x.txn, .int .i64 x.page, .int .i64 x.dst, .bool x.fast, .int .u64 x.lsn, .slice x.wa x.wl x.wc, .slice x.pa x.pl x.pc, .string x.body] 33))
      clear hk1 hN1
      cases hld : ld with
      | nil =>
        subst hld
        go_wp2_with fail
        refine (take_empty L _ 0 p id _ N1.out R2.out (put_self _ _ _)).mono ?_
        rintro e w2 ⟨rfl, hk2⟩
        have N2 := Lib.hid (N1.out.keep (hk2.alloc (.cells #[.int .i64 0, .int .i64 0, .int .i64 0, .int .i64 0, .bool false, .int .u64 0, .slice none 0 0, .slice none 0 0, .string ⟨#[]⟩] 33)) (fun _ _ h => h))
        have K2 := Lib.hid (K1.out.none_trans (hk2.alloc (.cells #[.int .i64 0, .int .i64 0, .int .i64 0, .int .i64 0, .bool false, .int .u64 0, .slice none 0 0, .slice none 0 0, .string ⟨#[]⟩] 33)))
        have mm : Hid (m + 1 + rx.length + ([] : List Qm).length = a0 + b0) := by show m + 1 + rx.length + ([] : List Qm).length = a0 + b0; have := M.out; simp at this ⊢; omega
        clear hk2
        go_wp2_with fail
        go_roundw
        case rel => exact ⟨rx, [], m + 1, by go_num, mm.out, N2.out, K2.out⟩
        case measure => have := mm.out; simp at this; simp [intOf]; omega
      | cons y rest =>
        subst hld
        go_wp2_with fail
        refine (take_some L _ 0 p id y rest _ N1.out R2.out (put_self _ _ _)).mono ?_
        rintro e w2 ⟨rfl, hN2, hk2⟩
        rw [put_put] at hN2
        have N2 := Lib.hid (hN2.keep ((Keep.refl (fun _ => False) _).alloc (.cells #[.int .i64 y.kind, .int .i64 y.txn, .int .i64 y.page, .int .i64 y.dst, .bool y.fast, .int .u64 y.lsn, .slice y.wa y.wl y.wc, .slice y.pa y.pl y.pc, .string y.body] 33)) (fun _ _ h => h))
        have K2 := Lib.hid ((K1.out.trans hk2 (fun i e => .inl (.inr e))).alloc (.cells #[.int .i64 y.kind, .int .i64 y.txn, .int .i64 y.page, .int .i64 y.dst, .bool y.fast, .int .u64 y.lsn, .slice y.wa y.wl y.wc, .slice y.pa y.pl y.pc, .string y.body] 33))
        have mm : Hid (m + 2 + rx.length + rest.length = a0 + b0) := by show m + 2 + rx.length + rest.length = a0 + b0; have := M.out; simp at this; omega
        clear hk2 hN2
        go_wp2_with fail
        go_roundw
        case rel => exact ⟨rx, rest, m + 2, by go_num, mm.out, N2.out, K2.out⟩
        case measure => have := mm.out; simp [intOf]; omega

end Go.Proofs.Ytgphlopbbmjdhaa
