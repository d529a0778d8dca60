/- A slice of numbers that came in, as the walks of the laws over clocks take it. -/
import Derived.Test.YtjakpmmjlmiekaaClock
import Derived.OpenShut
namespace Go.Proofs.Ytjakpmmjlmiekaa
open Go.RowKit
set_option linter.unusedVariables false

/-- It is empty; or it leads to cells that hold the numbers. -/
def ArgRow (w : World) (a : Option Addr) (len : Nat) (zs : List Int) : Prop :=
  len = 0 ∨ ∃ b off, a = some ⟨b, off, none⟩ ∧ b < w.heap.size ∧ ∀ j, j < len → w.cell? ⟨b, off + j, none⟩ = some (.int .u64 (zs.getD j 0))

theorem argRow_of {w : World} {a : Option Addr} {len cap : Nat} {zs : List Int}
    (h : (a = none ∧ len = 0 ∧ cap = 0 ∧ zs = []) ∨ ∃ x, a = some x ∧ len ≤ cap ∧ cap ≤ maxLen ∧ zs.length = cap ∧ (∀ i, i < zs.length → w.cell? (x.add i) = some (.int .u64 (zs.getD i 0))) ∧ ∀ n ∈ zs, (Lit.int .u64 n).wf = true) :
    ArgRow w a len zs ∧ len ≤ 9223372036854775807 ∧ (∀ j, 0 ≤ zs.getD j 0 ∧ zs.getD j 0 < 18446744073709551616) := by
  rcases h with ⟨rfl, rfl, rfl, rfl⟩ | ⟨x, rfl, hle, hm, hz, hc, hw⟩
  · exact ⟨.inl rfl, by omega, fun j => by simp⟩
  · have hb : ∀ j, 0 ≤ zs.getD j 0 ∧ zs.getD j 0 < 18446744073709551616 := fun j => by
      by_cases hj : j < zs.length
      · have := bounds_u64 (hw zs[j] (List.getElem_mem hj))
        rw [List.getD_eq_getElem?_getD, List.getElem?_eq_getElem hj]
        simp only [Option.getD_some]
        omega
      · rw [List.getD_eq_getElem?_getD, List.getElem?_eq_none (by omega)]
        simp
    unfold maxLen at hm
    refine ⟨?_, by omega, hb⟩
    by_cases hl : len = 0
    · exact .inl hl
    · obtain ⟨b, off, rfl, hc'⟩ := ints_at hc (by omega)
      exact .inr ⟨b, off, rfl, World.block_lt_of_cell? _ _ (hc' 0 (by omega)), fun j hj => hc' j (by omega)⟩

theorem ArgRow.at {w wr : World} {a : Option Addr} {len : Nat} {zs : List Int} (h : ArgRow w a len zs) (hb : Below w.heap.size w wr) {k : Nat} (hk : k < len) :
    ∃ b off, a = some ⟨b, off, none⟩ ∧ b < w.heap.size ∧ wr.cell? ⟨b, off + k, none⟩ = some (.int .u64 (zs.getD k 0)) := by
  rcases h with h | ⟨b, off, rfl, hlt, hc⟩
  · omega
  · exact ⟨b, off, rfl, hlt, (hb.cell (p := ⟨b, off + k, none⟩) hlt).trans (hc k hk)⟩

end Go.Proofs.Ytjakpmmjlmiekaa
