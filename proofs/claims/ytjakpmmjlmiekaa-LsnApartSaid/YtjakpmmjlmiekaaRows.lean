/-
  No cell of these rows narrows 'for every input' (looked for: loops, veiled, ifaces, maps, wideKeys, modest, calm, conditions, laid).
  DERIVED. THE GIVEN ROWS OF THIS SEAT. 6 by the template 'for every input the law returns true; each argument reads behind the call as it read before'; 0 by the template 'total and deterministic' (their statements: YtjakpmmjlmiekaaTotals.lean).
  GIVEN WITH THE SEED: the statements are not yours to turn. If you find one false, say at which input.
  Laid BY PROGRAM, IN A SANDBOX (cutbox-rows.mjs): the forced cells as the released guide's own fill.sh prints them over the translation 437d03be1f92d8ef… (all of the seat's roots in one cut). By AI agents, Wed Nov 11 2026. No macro, syntax, notation, axiom, sorry.
-/
import Derived.Test.YtjakpmmjlmiekaaChecked
import GoSem.Claim
import GoSem.ClaimJoined
import GoSem.ClaimMapViews
import Derived.JoinedTies
import Derived.KernelRfl
namespace Go.Proofs.Ytjakpmmjlmiekaa
/- THE CELL 'sum', in the pinned program and in every row, IS THE sha256 OF THE DUMP (.gsa) THAT YtjakpmmjlmiekaaProg.lean LOADS. Nothing in Lean hashes anything: it is a label: what it is worth is what the hold of that sum in a sandbox is worth. -/
noncomputable def Try.pinned : Pinned := { name := "ytjakpmmjlmiekaa", sum := "437d03be1f92d8ef1e36f3df84b5f22dd1cb64e2794279030a54d3e9ada05c8e", checked := Try.checked }
namespace Rows
def none {H : Type} : Left H := { results := [], args := [] }

/-- 'flotillalaw03.LsnMakes': WHATEVER THE INPUT: true; the input reads as it did. -/
def lsnMakesSpec : ChangeSpec := { name := "lsnMakes", fn := fun _ => fun
  | [d1, d2, d3] => { results := [.lit (.bool true)], args := [d1, d2, d3] }
  | _ => none }
def lsnMakesRow : OpenClaim := { program := "ytjakpmmjlmiekaa", sum := "437d03be1f92d8ef1e36f3df84b5f22dd1cb64e2794279030a54d3e9ada05c8e", func := "flotilla/flotillalaw03.LsnMakes", spec := "lsnMakes", apart := false }
def LsnMakesSaid : Prop := lsnMakesRow.holds Try.pinned (OpenSpec.ofChange lsnMakesSpec)

/-- ITS FALSE NEIGHBOUR: 'it returns false'. Refute it at one input. -/
def lsnMakesWrong : ChangeSpec := { name := "lsnMakes", fn := fun _ => fun
  | [d1, d2, d3] => { results := [.lit (.bool false)], args := [d1, d2, d3] }
  | _ => none }
def LsnMakesWrongFalsely : Prop := lsnMakesRow.holds Try.pinned (OpenSpec.ofChange lsnMakesWrong)

/-- 'flotillalaw03.LsnApart': WHATEVER THE INPUT: true; the input reads as it did. -/
def lsnApartSpec : ChangeSpec := { name := "lsnApart", fn := fun _ => fun
  | [d1, d2, d3] => { results := [.lit (.bool true)], args := [d1, d2, d3] }
  | _ => none }
def lsnApartRow : OpenClaim := { program := "ytjakpmmjlmiekaa", sum := "437d03be1f92d8ef1e36f3df84b5f22dd1cb64e2794279030a54d3e9ada05c8e", func := "flotilla/flotillalaw03.LsnApart", spec := "lsnApart", apart := false }
def LsnApartSaid : Prop := lsnApartRow.holds Try.pinned (OpenSpec.ofChange lsnApartSpec)

/-- ITS FALSE NEIGHBOUR: 'it returns false'. Refute it at one input. -/
def lsnApartWrong : ChangeSpec := { name := "lsnApart", fn := fun _ => fun
  | [d1, d2, d3] => { results := [.lit (.bool false)], args := [d1, d2, d3] }
  | _ => none }
def LsnApartWrongFalsely : Prop := lsnApartRow.holds Try.pinned (OpenSpec.ofChange lsnApartWrong)

/-- 'flotillalaw03.LsnOrder': WHATEVER THE INPUT: true; the input reads as it did. -/
def lsnOrderSpec : ChangeSpec := { name := "lsnOrder", fn := fun _ => fun
  | [d1, d2, d3, d4] => { results := [.lit (.bool true)], args := [d1, d2, d3, d4] }
  | _ => none }
def lsnOrderRow : OpenClaim := { program := "ytjakpmmjlmiekaa", sum := "437d03be1f92d8ef1e36f3df84b5f22dd1cb64e2794279030a54d3e9ada05c8e", func := "flotilla/flotillalaw03.LsnOrder", spec := "lsnOrder", apart := false }
def LsnOrderSaid : Prop := lsnOrderRow.holds Try.pinned (OpenSpec.ofChange lsnOrderSpec)

/-- ITS FALSE NEIGHBOUR: 'it returns false'. Refute it at one input. -/
def lsnOrderWrong : ChangeSpec := { name := "lsnOrder", fn := fun _ => fun
  | [d1, d2, d3, d4] => { results := [.lit (.bool false)], args := [d1, d2, d3, d4] }
  | _ => none }
def LsnOrderWrongFalsely : Prop := lsnOrderRow.holds Try.pinned (OpenSpec.ofChange lsnOrderWrong)

/-- 'flotillalaw03.LsnClocks': WHATEVER THE INPUT: true; the input reads as it did. -/
def lsnClocksSpec : ChangeSpec := { name := "lsnClocks", fn := fun _ => fun
  | [d1, d2] => { results := [.lit (.bool true)], args := [d1, d2] }
  | _ => none }
def lsnClocksRow : OpenClaim := { program := "ytjakpmmjlmiekaa", sum := "437d03be1f92d8ef1e36f3df84b5f22dd1cb64e2794279030a54d3e9ada05c8e", func := "flotilla/flotillalaw03.LsnClocks", spec := "lsnClocks", apart := false }
def LsnClocksSaid : Prop := lsnClocksRow.holds Try.pinned (OpenSpec.ofChange lsnClocksSpec)

/-- ITS FALSE NEIGHBOUR: 'it returns false'. Refute it at one input. -/
def lsnClocksWrong : ChangeSpec := { name := "lsnClocks", fn := fun _ => fun
  | [d1, d2] => { results := [.lit (.bool false)], args := [d1, d2] }
  | _ => none }
def LsnClocksWrongFalsely : Prop := lsnClocksRow.holds Try.pinned (OpenSpec.ofChange lsnClocksWrong)

/-- 'flotillalaw03.LsnAbove': WHATEVER THE INPUT: true; the input reads as it did. -/
def lsnAboveSpec : ChangeSpec := { name := "lsnAbove", fn := fun _ => fun
  | [d1, d2] => { results := [.lit (.bool true)], args := [d1, d2] }
  | _ => none }
def lsnAboveRow : OpenClaim := { program := "ytjakpmmjlmiekaa", sum := "437d03be1f92d8ef1e36f3df84b5f22dd1cb64e2794279030a54d3e9ada05c8e", func := "flotilla/flotillalaw03.LsnAbove", spec := "lsnAbove", apart := false }
def LsnAboveSaid : Prop := lsnAboveRow.holds Try.pinned (OpenSpec.ofChange lsnAboveSpec)

/-- ITS FALSE NEIGHBOUR: 'it returns false'. Refute it at one input. -/
def lsnAboveWrong : ChangeSpec := { name := "lsnAbove", fn := fun _ => fun
  | [d1, d2] => { results := [.lit (.bool false)], args := [d1, d2] }
  | _ => none }
def LsnAboveWrongFalsely : Prop := lsnAboveRow.holds Try.pinned (OpenSpec.ofChange lsnAboveWrong)

/-- 'flotillalaw03.LsnMax': WHATEVER THE INPUT: true; the input reads as it did. -/
def lsnMaxSpec : ChangeSpec := { name := "lsnMax", fn := fun _ => fun
  | [d] => { results := [.lit (.bool true)], args := [d] }
  | _ => none }
def lsnMaxRow : OpenClaim := { program := "ytjakpmmjlmiekaa", sum := "437d03be1f92d8ef1e36f3df84b5f22dd1cb64e2794279030a54d3e9ada05c8e", func := "flotilla/flotillalaw03.LsnMax", spec := "lsnMax", apart := false }
def LsnMaxSaid : Prop := lsnMaxRow.holds Try.pinned (OpenSpec.ofChange lsnMaxSpec)

/-- ITS FALSE NEIGHBOUR: 'it returns false'. Refute it at one input. -/
def lsnMaxWrong : ChangeSpec := { name := "lsnMax", fn := fun _ => fun
  | [d] => { results := [.lit (.bool false)], args := [d] }
  | _ => none }
def LsnMaxWrongFalsely : Prop := lsnMaxRow.holds Try.pinned (OpenSpec.ofChange lsnMaxWrong)

/- THE SECOND FORM. 'bulk': how many values and letters a reading holds, each counted each time it is reached (what is shared counts as often as it is met; a slice's spare places count too). A statement '..UptoSaid' is the law's where the arguments, and the package variables that the reading takes, are together of bulk at most 1048576: NARROWER than '..Said'. Prove '..Said' where nothing that the law and all that it calls make is longer than what came in: it says more and counts as full. Else prove '..UptoSaid'. A law counts once. -/
mutual
def uptoBulk {H : Type} : DataW H → Nat
  | .lit (.string bytes) => bytes.length + 1
  | .lit _ => 1
  | .nil => 1
  | .ptr d => uptoBulk d + 1
  | .slice elems spare => uptoBulkAll elems + uptoBulkAll spare + 1
  | .agg parts => uptoBulkAll parts + 1
  | .iface _ d => uptoBulk d + 1
  | .map entries => uptoBulkEntries entries + 1
  | .held _ => 1
def uptoBulkAll {H : Type} : List (DataW H) → Nat
  | [] => 0
  | d :: r => uptoBulk d + uptoBulkAll r
def uptoBulkEntries {H : Type} : List (Lit × DataW H) → Nat
  | [] => 0
  | x :: r => uptoBulkEntry x + uptoBulkEntries r
def uptoBulkEntry {H : Type} : Lit × DataW H → Nat
  | (.string bytes, d) => bytes.length + uptoBulk d + 1
  | (_, d) => uptoBulk d + 1
 end
def uptoSmall : (H : Type) → List (DataW H) → Bool := fun _ ds => decide (uptoBulkAll ds ≤ 1048576)
def OpenSpec.upto (s : _root_.Go.ChangeSpec) : _root_.Go.OpenSpec := { _root_.Go.OpenSpec.ofChange s with cond := some uptoSmall }

/-- 'flotillalaw03.LsnMakes', WHERE WHAT IT READS IS OF BULK AT MOST 1048576: true; the input reads as it did. -/
def lsnMakesUptoRow : OpenClaim := { program := "ytjakpmmjlmiekaa", sum := "437d03be1f92d8ef1e36f3df84b5f22dd1cb64e2794279030a54d3e9ada05c8e", func := "flotilla/flotillalaw03.LsnMakes", spec := "lsnMakes", apart := false, narrowed := true }
def LsnMakesUptoSaid : Prop := lsnMakesUptoRow.holds Try.pinned (OpenSpec.upto lsnMakesSpec)

/-- 'flotillalaw03.LsnApart', WHERE WHAT IT READS IS OF BULK AT MOST 1048576: true; the input reads as it did. -/
def lsnApartUptoRow : OpenClaim := { program := "ytjakpmmjlmiekaa", sum := "437d03be1f92d8ef1e36f3df84b5f22dd1cb64e2794279030a54d3e9ada05c8e", func := "flotilla/flotillalaw03.LsnApart", spec := "lsnApart", apart := false, narrowed := true }
def LsnApartUptoSaid : Prop := lsnApartUptoRow.holds Try.pinned (OpenSpec.upto lsnApartSpec)

/-- 'flotillalaw03.LsnOrder', WHERE WHAT IT READS IS OF BULK AT MOST 1048576: true; the input reads as it did. -/
def lsnOrderUptoRow : OpenClaim := { program := "ytjakpmmjlmiekaa", sum := "437d03be1f92d8ef1e36f3df84b5f22dd1cb64e2794279030a54d3e9ada05c8e", func := "flotilla/flotillalaw03.LsnOrder", spec := "lsnOrder", apart := false, narrowed := true }
def LsnOrderUptoSaid : Prop := lsnOrderUptoRow.holds Try.pinned (OpenSpec.upto lsnOrderSpec)

/-- 'flotillalaw03.LsnClocks', WHERE WHAT IT READS IS OF BULK AT MOST 1048576: true; the input reads as it did. -/
def lsnClocksUptoRow : OpenClaim := { program := "ytjakpmmjlmiekaa", sum := "437d03be1f92d8ef1e36f3df84b5f22dd1cb64e2794279030a54d3e9ada05c8e", func := "flotilla/flotillalaw03.LsnClocks", spec := "lsnClocks", apart := false, narrowed := true }
def LsnClocksUptoSaid : Prop := lsnClocksUptoRow.holds Try.pinned (OpenSpec.upto lsnClocksSpec)

/-- 'flotillalaw03.LsnAbove', WHERE WHAT IT READS IS OF BULK AT MOST 1048576: true; the input reads as it did. -/
def lsnAboveUptoRow : OpenClaim := { program := "ytjakpmmjlmiekaa", sum := "437d03be1f92d8ef1e36f3df84b5f22dd1cb64e2794279030a54d3e9ada05c8e", func := "flotilla/flotillalaw03.LsnAbove", spec := "lsnAbove", apart := false, narrowed := true }
def LsnAboveUptoSaid : Prop := lsnAboveUptoRow.holds Try.pinned (OpenSpec.upto lsnAboveSpec)

/-- 'flotillalaw03.LsnMax', WHERE WHAT IT READS IS OF BULK AT MOST 1048576: true; the input reads as it did. -/
def lsnMaxUptoRow : OpenClaim := { program := "ytjakpmmjlmiekaa", sum := "437d03be1f92d8ef1e36f3df84b5f22dd1cb64e2794279030a54d3e9ada05c8e", func := "flotilla/flotillalaw03.LsnMax", spec := "lsnMax", apart := false, narrowed := true }
def LsnMaxUptoSaid : Prop := lsnMaxUptoRow.holds Try.pinned (OpenSpec.upto lsnMaxSpec)

end Rows
end Go.Proofs.Ytjakpmmjlmiekaa
