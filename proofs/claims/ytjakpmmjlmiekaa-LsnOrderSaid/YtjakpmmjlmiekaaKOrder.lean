/- The walk of the law LsnOrder: it returns true, and writes nothing that was there. -/
import Derived.Test.YtjakpmmjlmiekaaClock
import Derived.OpenShut
namespace Go.Proofs.Ytjakpmmjlmiekaa
open Go.RowKit
set_option linter.unusedVariables false
set_option linter.unusedSimpArgs false

theorem mk_cases (c i : Int) : (0 ≤ i ∧ i < 8 ∧ 1 ≤ c ∧ c ≤ 72057594037927936 ∧ mkL c i = c * 16 + i ∧ mkE c i = 0) ∨ (mkL c i = 0 ∧ mkE c i = 1) ∨ (mkL c i = 0 ∧ mkE c i = 11) := by
  unfold mkL mkE
  by_cases h : 0 ≤ i ∧ i < 8
  · by_cases h2 : 1 ≤ c ∧ c ≤ 72057594037927936
    · left; rw [if_pos ⟨h.1, h.2, h2⟩, if_pos h, if_pos h2]; exact ⟨h.1, h.2, h2.1, h2.2, rfl, rfl⟩
    · right; right; rw [if_neg (by omega), if_pos h, if_neg h2]; exact ⟨rfl, rfl⟩
  · right; left; rw [if_neg (by omega), if_neg h]; exact ⟨rfl, rfl⟩

set_option maxHeartbeats 1000000 in
set_option maxRecDepth 100000 in
theorem lsnOrder_walk (c d i k : Int) (w0 : (Lit.int .u64 c).wf = true) (w1 : (Lit.int .u64 d).wf = true) (w : World) :
    Calls Try.prog 5 #[.int .u64 c, .int .u64 d, .int .i64 i, .int .i64 k] w fun e w' => e = .returned (.bool true) ∧ Below w.heap.size w w' := by
  obtain ⟨c0, c1⟩ := bounds_u64 w0
  obtain ⟨d0, d1⟩ := bounds_u64 w1
  have hM := fun w => make_any c i w c0 (by omega)
  have hN := fun w => make_any d k w d0 (by omega)
  have HL := Lib.hid lives_yes
  clear w0 w1
  rcases mk_cases c i with ⟨i0, i1, n0, n1, h1, h2⟩ | ⟨h1, h2⟩ | ⟨h1, h2⟩ <;> rcases mk_cases d k with ⟨k0, k1, m0, m1, h3, h4⟩ | ⟨h3, h4⟩ | ⟨h3, h4⟩
  all_goals
    rw [h1, h2] at hM
    rw [h3, h4] at hN
    clear h1 h2 h3 h4
    have HM := Lib.hid hM
    have HN := Lib.hid hN
    clear hM hN
  · have HC := Lib.hid (fun w => count_any (c * 16 + i) w (by omega) (by omega))
    have HI := Lib.hid (fun w => inst_any (d * 16 + k) w (by omega) (by omega))
    rw [show (c * 16 + i) / 16 = c by omega] at HC
    rw [show (d * 16 + k) % 16 = k by omega] at HI
    rcases (by omega : c < d ∨ d < c ∨ (c = d ∧ i < k) ∨ (c = d ∧ k ≤ i)) with hh | hh | ⟨hh, hi⟩ | ⟨hh, hi⟩
    all_goals first | obtain rfl := hh | have hcd : (c == d) = false := by (rw [beq_eq_false_iff_ne]; omega)
    all_goals
      go_enter Try.func5, Try.ntmps5
      go_wp2_with fail
      refine (HM.out _).mono ?_
      rintro e w' ⟨rfl, rfl⟩
      go_wp2_with fail
      refine (HN.out _).mono ?_
      rintro e w' ⟨rfl, rfl⟩
      go_wp2_with (first
        | (go_at_call 13; refine (HC.out _).mono ?_; rintro e w' ⟨rfl, rfl⟩)
        | (go_at_call 14; refine (HI.out _).mono ?_; rintro e w' ⟨rfl, rfl⟩))
      refine (HL.out _).mono ?_
      rintro e w' ⟨rfl, hk⟩
      go_wp2_with fail
      go_ret
      exact ⟨rfl, hk.below (Nat.le_refl _) (fun _ _ h => h)⟩
  all_goals
    go_enter Try.func5, Try.ntmps5
    go_wp2_with fail
    refine (HM.out _).mono ?_
    rintro e w' ⟨rfl, rfl⟩
    go_wp2_with fail
    refine (HN.out _).mono ?_
    rintro e w' ⟨rfl, rfl⟩
    go_wp2_with fail
    refine (HL.out _).mono ?_
    rintro e w' ⟨rfl, hk⟩
    go_wp2_with fail
    go_ret
    exact ⟨rfl, hk.below (Nat.le_refl _) (fun _ _ h => h)⟩

end Go.Proofs.Ytjakpmmjlmiekaa
