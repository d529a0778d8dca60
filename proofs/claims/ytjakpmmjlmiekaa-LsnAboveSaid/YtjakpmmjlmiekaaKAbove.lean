/- The walk of the law LsnAbove: it returns true, and writes nothing that was there. -/
import Derived.Test.YtjakpmmjlmiekaaArgs
namespace Go.Proofs.Ytjakpmmjlmiekaa
open Go.RowKit
set_option linter.unusedVariables false
set_option linter.unusedSimpArgs false

theorem seeN_valid (n x : Int) (h : validB x = true) : x / 16 ≤ seeN n x := by
  unfold seeN
  split
  · omega
  · rename_i g; simp [h] at g; exact g

set_option maxHeartbeats 2000000 in
set_option maxRecDepth 100000 in
theorem lsnAbove_any (i : Int) (a : Option Addr) (len cap : Nat) (zs : List Int) (w : World)
    (ha : ArgRow w a len zs) (hm : len ≤ 9223372036854775807) (hz : ∀ j, 0 ≤ zs.getD j 0 ∧ zs.getD j 0 < 18446744073709551616) :
    Calls Try.prog 7 #[.int .i64 i, .slice a len cap] w fun e w' => e = .returned (.bool true) ∧ Below w.heap.size w w' := by
  have HL := Lib.hid lives_yes
  have HA := Lib.hid ha
  have HZ := Lib.hid hz
  clear ha hz
  have h0 : 0 ≤ IntKind.u64.wrap i := by rw [IntKind.wrap_u64]; omega
  go_enter Try.func7, Try.ntmps7
  go_wp2_with fail
  obtain ⟨p, hp⟩ : ∃ p, p = IntKind.u64.wrap i % 8 := ⟨_, rfl⟩
  have p0 : 0 ≤ p := by omega
  have p1 : p < 8 := by omega
  rw [← hp]
  clear hp h0
  have HW := Lib.hid (fun w => new_yes p w p0 p1)
  refine (HW.out _).mono ?_
  rintro e w1 ⟨rfl, hc, hk⟩
  have HC1 := Lib.hid hc
  have HB1 := Lib.hid (hk.below (B := w.heap.size) (Nat.le_refl _) (fun _ _ h => h))
  clear hc hk
  go_wp2_with fail
  go_loopw [8, 9, 10, 11, 12] (fun q j _ _ _ wr => ∃ (k : Nat) (m M : Int), k ≤ len ∧ k ≤ 100 ∧ j = .int .i64 k ∧ q = .int .u64 M ∧ 0 ≤ M ∧ M < (m + 1) * 16 ∧ 0 ≤ m ∧ m ≤ 72057594037927936 ∧ Clk wr w.heap.size p m ∧ Below w.heap.size w wr) (fun _ j _ _ _ _ => len - (intOf j).toNat)
  case atStart => exact ⟨0, 0, 0, Nat.zero_le _, Nat.zero_le _, rfl, rfl, by omega, by omega, by omega, by omega, HC1.out, HB1.out⟩
  case round =>
    obtain ⟨k, m, M, hk, hk1, rfl, rfl, M0, M1, m0, m1, hc, hb⟩ := hrel
    rcases (by omega : (k < len ∧ k < 100) ∨ (k < len ∧ 100 ≤ k) ∨ len ≤ k) with ⟨hlt, hlt1⟩ | ⟨hlt, hge⟩ | hge
    · obtain ⟨b, off, rfl, hbw, hcell⟩ := HA.out.at hb hlt
      obtain ⟨z0, z1⟩ := HZ.out k
      have HC := Lib.hid hc
      have HB := Lib.hid hb
      clear hc hb
      generalize zs.getD k 0 = z at hcell z0 z1
      obtain ⟨s0, s1⟩ := seeN_bd m z m0 m1
      have sv := seeN_valid m z
      have HS := Lib.hid (fun w hc => see_any w.heap.size z p m w hc z0 z1)
      have HSee : Hid (∀ w b, Clk w b p m → Calls Try.prog 18 #[.pointer (some ⟨b, 0, none⟩), .int .u64 z] w fun e w' => e = .returned (.tuple #[]) ∧ Clk w' b p (seeN m z) ∧ Keep (fun k => k = b) w w') := fun w b hc => see_any b z p m w hc z0 z1
      generalize seeN m z = n at s0 s1 sv HSee
      have HV : Hid (∀ w, Calls Try.prog 11 #[.int .u64 z] w fun e w' => e = .returned (.bool (validB z)) ∧ w = w') := fun w => valid_any z w z0 z1
      have hcase : ∃ (v : Bool) (M' : Int), validB z = v ∧ 0 ≤ M' ∧ M' < (n + 1) * 16 ∧ ((v = true ∧ M < z ∧ M' = z) ∨ (v = true ∧ z ≤ M ∧ M' = M) ∨ (v = false ∧ M' = M)) := by
        cases hv : validB z
        · exact ⟨false, M, rfl, by omega, by omega, .inr (.inr ⟨rfl, rfl⟩)⟩
        · have := sv hv
          by_cases hlt : M < z
          · exact ⟨true, z, rfl, by omega, by omega, .inl ⟨rfl, hlt, rfl⟩⟩
          · exact ⟨true, M, rfl, by omega, by omega, .inr (.inl ⟨rfl, by omega, rfl⟩)⟩
      obtain ⟨v, M', hv, M0', M1', hcs⟩ := hcase
      rw [hv] at HV
      clear sv hv HS
      rcases (by omega : n < 72057594037927936 ∨ n = 72057594037927936) with hn | rfl
      · have HY : Hid (∀ w, Calls Try.prog 11 #[.int .u64 ((n + 1) * 16 + p)] w fun e w' => e = .returned (.bool true) ∧ w = w') := fun w => by
          have := valid_any ((n + 1) * 16 + p) w (by omega) (by omega)
          rwa [show validB ((n + 1) * 16 + p) = true from by simp [validB]; omega] at this
        have HI : Hid (∀ w, Calls Try.prog 14 #[.int .u64 ((n + 1) * 16 + p)] w fun e w' => e = .returned (.int .i64 p) ∧ w = w') := fun w => by
          have := inst_any ((n + 1) * 16 + p) w (by omega) (by omega)
          rwa [show ((n + 1) * 16 + p) % 16 = p from by omega] at this
        obtain ⟨y, hy⟩ : ∃ y, y = (n + 1) * 16 + p := ⟨_, rfl⟩
        have HT : Hid (∀ w b, Clk w b p n → Calls Try.prog 17 #[.pointer (some ⟨b, 0, none⟩)] w fun e w' => e = .returned (.tuple #[.int .u64 y, .int .i64 0]) ∧ Clk w' b p (n + 1) ∧ Keep (fun k => k = b) w w') := fun w b hc => by
          rw [hy]; exact tick_ok b p n w hc p0 p1 (by omega) hn
        rw [← hy] at HY HI
        have y0 : M' < y := by omega
        have y1 : y < (n + 1 + 1) * 16 := by omega
        clear hy
        rcases hcs with ⟨rfl, hzM, rfl⟩ | ⟨rfl, hzM, rfl⟩ | ⟨rfl, rfl⟩
        all_goals
          go_wp2_with fail
          refine (HSee.out _ _ HC.out).mono ?_
          rintro e w2 ⟨rfl, hc2, hk2⟩
          have HC2 := Lib.hid hc2
          have HB2 := Lib.hid (HB.out.trans (hk2.below (B := w.heap.size) HB.out.size (fun k h e => by omega)))
          clear hc2 hk2
          go_wp2_with fail
          refine (HV.out _).mono ?_
          rintro e w' ⟨rfl, rfl⟩
          go_wp2_with fail
          refine (HT.out _ _ HC2.out).mono ?_
          rintro e w3 ⟨rfl, hc3, hk3⟩
          have HC3 := Lib.hid hc3
          have HB3 := Lib.hid (HB2.out.trans (hk3.below (B := w.heap.size) HB2.out.size (fun k h e => by omega)))
          clear hc3 hk3
          go_wp2_with fail
          refine (HY.out _).mono ?_
          rintro e w' ⟨rfl, rfl⟩
          go_wp2_with fail
          refine (HI.out _).mono ?_
          rintro e w' ⟨rfl, rfl⟩
          go_wp2_with fail
          go_roundw
          case rel => exact ⟨k + 1, n + 1, y, by omega, by omega, by go_num, rfl, by omega, by omega, by omega, by omega, HC3.out, HB3.out⟩
          case measure => simp [intOf]; omega
      · rcases hcs with ⟨rfl, hzM, rfl⟩ | ⟨rfl, hzM, rfl⟩ | ⟨rfl, rfl⟩
        all_goals
          go_wp2_with fail
          refine (HSee.out _ _ HC.out).mono ?_
          rintro e w2 ⟨rfl, hc2, hk2⟩
          have HC2 := Lib.hid hc2
          have HB2 := Lib.hid (HB.out.trans (hk2.below (B := w.heap.size) HB.out.size (fun k h e => by omega)))
          clear hc2 hk2
          go_wp2_with fail
          refine (HV.out _).mono ?_
          rintro e w' ⟨rfl, rfl⟩
          go_wp2_with fail
          refine (tick_over _ p 72057594037927936 _ HC2.out p0 p1 (by omega) (by omega)).mono ?_
          rintro e w3 ⟨rfl, hc3, hk3⟩
          have HC3 := Lib.hid hc3
          have HB3 := Lib.hid (HB2.out.trans (hk3.below (B := w.heap.size) HB2.out.size (fun k h e => by omega)))
          clear hc3 hk3
          go_wp2_with fail
          refine (now_any _ p 72057594037927936 _ HC3.out).mono ?_
          rintro e w' ⟨rfl, rfl⟩
          go_wp2_with fail
          go_roundw
          case rel => exact ⟨k + 1, 72057594037927936, _, by omega, by omega, by go_num, rfl, by omega, by omega, by omega, by omega, HC3.out, HB3.out⟩
          case measure => simp [intOf]; omega
    all_goals
      have HB := Lib.hid hb
      clear hb hc
      go_wp2_with fail
      refine (HL.out _).mono ?_
      rintro e w' ⟨rfl, hkp⟩
      go_wp2_with fail
      go_ret
      exact ⟨rfl, HB.out.trans (hkp.below HB.out.size (fun _ _ h => h))⟩

end Go.Proofs.Ytjakpmmjlmiekaa
