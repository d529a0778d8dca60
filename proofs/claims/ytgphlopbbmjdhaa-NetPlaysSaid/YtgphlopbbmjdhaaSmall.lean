/- 'small' of the laws over nets. -/
import Derived.Test.YtgphlopbbmjdhaaOps
namespace Go.Proofs.Ytgphlopbbmjdhaa
open Go.RowKit Go.Conc
set_option linter.unusedVariables false
set_option linter.unusedSimpArgs false

/-- Has a message so few parts? -/
def Qm.few (m : Qm) : Bool := decide (m.wl ≤ 50 ∧ m.pl ≤ 50 ∧ m.body.size ≤ 2000)

set_option maxHeartbeats 1000000 in
theorem small_any (m : Qm) (w : World) :
    Calls Try.prog 15 #[.agg #[.int .i64 m.kind, .int .i64 m.txn, .int .i64 m.page, .int .i64 m.dst, .bool m.fast, .int .u64 m.lsn, .slice m.wa m.wl m.wc, .slice m.pa m.pl m.pc, .string m.body]] w fun e w' =>
      e = .returned (.bool m.few) ∧ Keep (fun _ => False) w w' := by
  by_cases h1 : m.wl ≤ 50
  · by_cases h2 : m.pl ≤ 50
    · by_cases h3 : m.body.size ≤ 2000
      all_goals
        go_enter Try.func15, Try.ntmps15
        go_wp2
        go_ret
        exact ⟨by simp [Qm.few, h1, h2, h3]; try omega, (Keep.refl _ _).alloc _⟩
    · go_enter Try.func15, Try.ntmps15
      go_wp2
      go_ret
      exact ⟨by simp [Qm.few, h1, h2], (Keep.refl _ _).alloc _⟩
  · go_enter Try.func15, Try.ntmps15
    go_wp2
    go_ret
    exact ⟨by simp [Qm.few, h1], (Keep.refl _ _).alloc _⟩

end Go.Proofs.Ytgphlopbbmjdhaa
