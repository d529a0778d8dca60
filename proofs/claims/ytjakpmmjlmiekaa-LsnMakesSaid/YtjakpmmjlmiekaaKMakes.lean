/- The walk of the law LsnMakes: it returns true, and writes nothing that was there. -/
import Derived.Test.YtjakpmmjlmiekaaClock
import Derived.OpenShut
namespace Go.Proofs.Ytjakpmmjlmiekaa
open Go.RowKit
set_option linter.unusedVariables false
set_option linter.unusedSimpArgs false

set_option maxHeartbeats 1000000 in
set_option maxRecDepth 100000 in
theorem lsnMakes_walk (a0 : Int) (a1 : Int) (a2 : Int) (w0 : (Lit.int .u64 a0).wf = true) (w2 : (Lit.int .u64 a2).wf = true) (w : World) :
    Calls Try.prog 3 #[.int .u64 a0, .int .i64 a1, .int .u64 a2] w fun e w' => e = .returned (.bool true) ∧ Below w.heap.size w w' := by
  obtain ⟨c0, c1⟩ := bounds_u64 w0
  obtain ⟨x0, x1⟩ := bounds_u64 w2
  have hM := fun w => make_any a0 a1 w c0 (by omega)
  have hR := fun w => refMake_any a0 a1 w c0 (by omega)
  generalize mkL a0 a1 = L at hM hR
  generalize mkE a0 a1 = E at hM hR
  have hV := fun w => valid_any a2 w x0 (by omega)
  have hW := fun w => refValid_any a2 w x0 (by omega)
  generalize validB a2 = V at hV hW
  have HM := Lib.hid hM
  have HR := Lib.hid hR
  have HV := Lib.hid hV
  have HW := Lib.hid hW
  have HC := Lib.hid (fun w => count_any a2 w x0 (by omega))
  have HI := Lib.hid (fun w => inst_any a2 w x0 (by omega))
  have HL := Lib.hid lives_yes
  clear hM hR hV hW w0 w2
  go_enter Try.func3, Try.ntmps3
  go_wp2_with (first
    | (go_at_call 9; refine (HM.out _).mono ?_; rintro e w' ⟨rfl, rfl⟩)
    | (go_at_call 10; refine (HR.out _).mono ?_; rintro e w' ⟨rfl, rfl⟩)
    | (go_at_call 11; refine (HV.out _).mono ?_; rintro e w' ⟨rfl, rfl⟩)
    | (go_at_call 12; refine (HW.out _).mono ?_; rintro e w' ⟨rfl, rfl⟩)
    | (go_at_call 13; refine (HC.out _).mono ?_; rintro e w' ⟨rfl, rfl⟩)
    | (go_at_call 14; refine (HI.out _).mono ?_; rintro e w' ⟨rfl, rfl⟩))
  refine (HL.out _).mono ?_
  rintro e w' ⟨rfl, hk⟩
  go_wp2_with fail
  go_ret
  exact ⟨rfl, hk.below (Nat.le_refl _) (fun _ _ h => h)⟩

end Go.Proofs.Ytjakpmmjlmiekaa
