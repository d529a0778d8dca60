/- A heap of numbers: made; which of two is less. -/
import Derived.Test.YthgkhhgabpebmaaRec
import Derived.Test.YthgkhhgabpebmaaPq
namespace Go.Proofs.Ythgkhhgabpebmaa
open Go.RowKit
set_option linter.unusedVariables false
set_option linter.unusedSimpArgs false

def ikey (x : Int) : Int := x

set_option maxHeartbeats 400000 in
theorem newIHeap_any (w : World) :
    Calls Try.prog 13 #[.func (.func 14) #[] #[]] w fun e w' => e = .returned (.pointer (some ⟨w.heap.size, 0, none⟩)) ∧ w' = w.alloc (.cells #[.func (.func 14) #[] #[], .slice none 0 0] 75) := by
  go_enter Try.func13, Try.ntmps13
  go_wp2
  go_ret
  exact ⟨rfl, rfl⟩

set_option maxHeartbeats 400000 in
theorem iless_any (a b : Int) (w : World) :
    Calls Try.prog 14 #[.int .i64 a, .int .i64 b] w fun e w' => e = .returned (.bool (decide (ikey a < ikey b))) ∧ ∃ d, w' = w.drewN d := by
  go_enter Try.func14, Try.ntmps14
  go_wp2
  all_goals
    go_ret
    exact ⟨rfl, 0, rfl⟩

/-- A heap of numbers as it lies. -/
structure IHeapAt (w : World) (base hb : Nat) (ha : Option Addr) (n cap : Nat) (us : List Int) : Prop where
  top : Blk w hb 75 [.func (.func 14) #[] #[], .slice ha n cap]
  row : w.ownsRow base 3 1 (.slice ha n cap) n (us.map (Value.int .i64))
  len : us.length = n

theorem IHeapAt.new (w : World) (base : Nat) : IHeapAt (w.alloc (.cells #[.func (.func 14) #[] #[], .slice none 0 0] 75)) base w.heap.size none 0 0 [] := ⟨Blk.new w 75 [.func (.func 14) #[] #[], .slice none 0 0], World.ownsRow_nil _ _ _ _, rfl⟩

/-- The blocks that a heap of numbers may write: its head, and its row. -/
def IHeapish (row : Option Nat) (hb : Nat) (w : World) (b : Nat) : Prop := b = hb ∨ row = some b

theorem IHeapAt.keep {S : Nat → Prop} {w w' : World} {base hb : Nat} {ha : Option Addr} {n cap : Nat} {us : List Int} (h : IHeapAt w base hb ha n cap us) (k : Keep S w w') (h1 : ¬ S hb) (h2 : ∀ b, (Value.slice ha n cap).ownBlock = some b → ¬ S b) : IHeapAt w' base hb ha n cap us :=
  ⟨h.top.keep k h1, owns_keep h.row k h2, h.len⟩

theorem IHeapAt.swap {w : World} {base hb g n cap : Nat} {us : List Int} (h : IHeapAt w base hb (some ⟨g, 0, none⟩) n cap us) {i j : Nat} (a b : Int) :
    IHeapAt ((w.setCell ⟨g, i, none⟩ (.int .i64 b)).setCell ⟨g, j, none⟩ (.int .i64 a)) base hb (some ⟨g, 0, none⟩) n cap (swp us i j a b) ∧ Keep (fun k => k = g) w ((w.setCell ⟨g, i, none⟩ (.int .i64 b)).setCell ⟨g, j, none⟩ (.int .i64 a)) := by
  obtain ⟨h1, h2⟩ := owns_swap h.row i j (.int .i64 b) (.int .i64 a)
  refine ⟨⟨h.top.keep h2 (fun e => owns_ne h.row h.top (by decide) rfl e.symm), ?_, by rw [swp_length]; exact h.len⟩, h2⟩
  have e : (swp us i j a b).map (Value.int .i64) = (((us.map (Value.int .i64)).set i (.int .i64 b)).set j (.int .i64 a)) := by simp [swp, List.map_set]
  rw [e]
  exact h1

end Go.Proofs.Ythgkhhgabpebmaa
