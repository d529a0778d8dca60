/- A select of one case with a default, in one goroutine, for the walk of a function: 'CodeN' is the walk's word for a frame that is an ordinary call's. Of no program. -/
import Derived.WalkKit
import Derived.Conc.LoneSelect
namespace Go.Proofs.Ytgphlopbbmjdhaa
open Go.RowKit Go.Conc
set_option linter.unusedVariables false

/-- As 'Code.wp', of the frames of ordinary calls alone. -/
def CodeN (P : Program) (c : Code) (Q : Exit → Act → World → Prop) (a : Act) (w : World) : Prop :=
  ∀ (b : Frame) (k : List Item) (cs : List Frame), b.kind ≠ .early → ∃ e a' w', Q e a' w' ∧ Arrives P (lone (b.at a (.code c :: k)) cs w) b k cs e a' w'

section
variable {P : Program} {Q : Exit → Act → World → Prop} {a : Act} {w : World}

theorem CodeN.of_wp {c : Code} (h : c.wp P Q a w) : CodeN P c Q a w := fun b k cs _ => h b k cs

theorem CodeN.glue {x y : Code} {K : Act → World → Prop} (hK : ∀ a w, K a w → CodeN P y Q a w) {b : Frame} {k : List Item} {cs : List Frame} (hb : b.kind ≠ .early) {m : Machine}
    (hm : Steps P (lone (b.at a (.code (.seq x y) :: k)) cs w) m) {e : Exit} {a₁ : Act} {w₁ : World} (hq : Exit.then K Q e a₁ w₁) (harr : Arrives P m b (.code y :: k) cs e a₁ w₁) :
    ∃ e a' w', Q e a' w' ∧ Arrives P (lone (b.at a (.code (.seq x y) :: k)) cs w) b k cs e a' w' := by
  cases e with
  | normal =>
    obtain ⟨e₂, a₂, w₂, hq₂, harr₂⟩ := hK _ _ hq b k cs hb
    exact ⟨e₂, a₂, w₂, hq₂, .of_steps (hm.trans harr) harr₂⟩
  | exit id => exact ⟨_, a₁, w₁, hq, .of_steps hm (.pass (x := .code y) rfl (fun _ _ => .inl (by simp)) harr)⟩
  | goto l => exact ⟨_, a₁, w₁, hq, .of_steps hm (.pass (x := .code y) rfl (fun _ _ => .inl (by simp)) harr)⟩
  | ret => exact ⟨_, a₁, w₁, hq, .of_steps hm (.pass (x := .code y) rfl (fun _ _ => .inl (by simp)) harr)⟩
  | panic ch => exact ⟨_, a₁, w₁, hq, .of_steps hm (.pass (x := .code y) rfl (fun _ _ => .inl (by simp)) harr)⟩
  | outgrown => exact ⟨_, a₁, w₁, hq, .of_steps hm (.pass (x := .code y) rfl (fun _ _ => .inl (by simp)) harr)⟩

/-- Two pieces, the first walked as ever. -/
theorem CodeN.seq_k {x y : Code} (h : ∀ K : Act → World → Prop, (∀ a w, CodeN P y Q a w → K a w) → x.wp P (Exit.then K Q) a w) : CodeN P (.seq x y) Q a w := by
  intro b k cs hb
  obtain ⟨e, a₁, w₁, hq, harr⟩ := h _ (fun _ _ h => h) b (.code y :: k) cs
  exact CodeN.glue (K := fun a w => CodeN P y Q a w) (fun _ _ h => h) hb (.one step_seq) hq harr

/-- A region that begins with a select of one case and a default. -/
theorem CodeN.sel {id : Nat} {o : Oper} {rest : List Oper} {y : Code} {cases : Array CommCase} {v : Value} {w' : World} (hg : o.guard = none)
    (hr : (execOp a.eval o).run P w = .ok (.comm cases false .select) w)
    (hstep : ∀ fr cs es, stepG P true (G fr cs) w = .comm (G fr cs) cases false .select w es → step P (solo (G fr cs) w) = .next (solo (G (fr.finish v) cs) w'))
    (h : ∀ K : Act → World → Prop, (∀ a w, CodeN P y Q a w → K a w) → wpList P (o :: rest).toArray (Exit.then K Q) rest (a.put o.dst v) w') :
    CodeN P (.seq (.region id (o :: rest).toArray false) y) Q a w := by
  intro b k cs hb
  have ho : (o :: rest).toArray[0]? = some o := by simp
  have hw : Region.wanted o (yielded (o :: rest).toArray a.tmps) = true := by simp [Region.wanted, hg]
  have hs := hstep _ _ _ (stepG_comm (b := b) (k := .code y :: k) (cs := cs) (main := true) (i := 0) (rest := List.range' 1 rest.length) ho hw hb hr)
  rw [Frame.finish_at, ho] at hs
  have hrange : List.range (o :: rest).toArray.size = 0 :: List.range' 1 rest.length := by
    simp [List.range_eq_range', List.range'_succ]
  have hreg := step_region (P := P) (b := b) (a := a) (k := .code y :: k) (cs := cs) (w := w) (ops := (o :: rest).toArray) (id := id)
  rw [hrange] at hreg
  have hl := h _ (fun _ _ h => h)
  rw [← wpOps_eq_wpList (P := P) (ops := (o :: rest).toArray) (Q := Exit.then (fun a w => CodeN P y Q a w) Q) rest 1 (fun j => by simp [Nat.add_comm 1 j])] at hl
  obtain ⟨e, a₁, w₁, hq, harr⟩ := wp_ops _ _ _ hl b (.code y :: k) cs
  exact CodeN.glue (K := fun a w => CodeN P y Q a w) (fun _ _ h => h) hb (.head step_seq (.head hreg (.one hs))) hq harr

theorem callsN {f : FuncId} {fn : Func} {c : Code} {args : Array Value} {R : Ending → World → Prop}
    (hf : P.funcs[f]? = some fn) (hb : fn.body = some c)
    (h : CodeN P c (bodyPost P fn R) { tmps := args ++ Array.replicate (fn.ntmps - args.size) undef, defers := [] } w) :
    Calls P f args w R := by
  intro cs
  let b : Frame := { (default : Frame) with fn := f, kind := .normal }
  have henter : Frame.enter P f args .normal =
      b.at { tmps := args ++ Array.replicate (fn.ntmps - args.size) undef, defers := [] } [.code c] := by
    simp [Frame.enter, Frame.at, hf, hb, b]
  obtain ⟨e, a', w', hq, harr⟩ := h b [] cs (by simp [b])
  rw [← henter] at harr
  cases e with
  | normal =>
    obtain ⟨hd, v, hr, hR⟩ := hq
    exact ⟨.returned v, w', _, hR, Steps.trans harr (.one step_end), rfl, rfl, hd, rfl, fn, hf, hr⟩
  | ret =>
    obtain ⟨hd, v, hr, hR⟩ := hq
    obtain ⟨todo, hs⟩ := harr
    exact ⟨.returned v, w', _, hR, hs, rfl, rfl, hd, rfl, fn, hf, hr⟩
  | panic chain =>
    obtain ⟨hd, hR⟩ := hq
    obtain ⟨todo, hs⟩ := harr
    exact ⟨.panicked chain, w', _, hR, hs, rfl, rfl, hd, fn, hf⟩
  | exit id => exact hq.elim
  | goto l => exact hq.elim
  | outgrown => exact ⟨.outgrown, w', b, hq, harr.resolve_left (by simp [b]), rfl, trivial⟩
end

end Go.Proofs.Ytgphlopbbmjdhaa
