/- Worlds that agree but for some blocks ('Keep'), and what a block of two cells gives: facts on memory alone, of no program. -/
import Derived.WalkKit
import Derived.OneCell
import Derived.Deep.Draws
namespace Go.Proofs.Ytjakpmmjlmiekaa
open Go.RowKit
set_option linter.unusedVariables false
set_option linter.unusedSimpArgs false

/-- Of the blocks that were there none has turned but those of S. -/
structure Keep (S : Nat → Prop) (w w' : World) : Prop where
  os : w'.os = w.os
  tape : w'.tape = w.tape
  output : w'.output = w.output
  size : w.heap.size ≤ w'.heap.size
  block : ∀ k, k < w.heap.size → ¬ S k → w'.heap[k]? = w.heap[k]?

theorem Keep.refl (S : Nat → Prop) (w : World) : Keep S w w := ⟨rfl, rfl, rfl, Nat.le_refl _, fun _ _ _ => rfl⟩

theorem Keep.trans {S T : Nat → Prop} {a b c : World} (h : Keep S a b) (k : Keep T b c) (hT : ∀ i, T i → S i ∨ a.heap.size ≤ i) : Keep S a c :=
  ⟨k.os.trans h.os, k.tape.trans h.tape, k.output.trans h.output, Nat.le_trans h.size k.size, fun i hi hn =>
    (k.block i (Nat.lt_of_lt_of_le hi h.size) (fun t => (hT i t).elim hn (fun h' => by omega))).trans (h.block i hi hn)⟩

theorem Keep.mono {S T : Nat → Prop} {a b : World} (h : Keep S a b) (hS : ∀ i, S i → T i) : Keep T a b :=
  ⟨h.os, h.tape, h.output, h.size, fun i hi hn => h.block i hi (fun s => hn (hS i s))⟩

theorem Keep.drew {S : Nat → Prop} {a w : World} (h : Keep S a w) : Keep S a w.drew := ⟨h.os, h.tape, h.output, h.size, h.block⟩
theorem Keep.drewN {S : Nat → Prop} {a w : World} (h : Keep S a w) (n : Nat) : Keep S a (w.drewN n) := ⟨h.os, h.tape, h.output, h.size, h.block⟩

theorem Keep.alloc {S : Nat → Prop} {a w : World} (h : Keep S a w) (o : Obj) : Keep S a (w.alloc o) :=
  h.trans (T := fun _ => False) ⟨rfl, rfl, rfl, by simp, fun k hk _ => Below.heap_alloc _ _ _ hk⟩ (fun _ t => t.elim)

theorem Keep.setCell {S : Nat → Prop} {a w : World} (h : Keep S a w) {p : Addr} (hp : S p.block ∨ a.heap.size ≤ p.block) (u : Value) : Keep S a (w.setCell p u) :=
  h.trans (T := fun i => i = p.block) ⟨rfl, rfl, rfl, by simp [World.setCell], fun k _ hn => Below.heap_setCell _ _ _ _ hn⟩ (fun _ t => by subst t; exact hp)

theorem Keep.below {S : Nat → Prop} {w w' : World} (h : Keep S w w') {B : Nat} (hB : B ≤ w.heap.size) (hS : ∀ k, k < B → ¬ S k) : Below B w w' :=
  ⟨h.os, h.tape, h.output, h.size, fun k hk => h.block k (by omega) (hS k hk)⟩

theorem Keep.ofBelow {w w' : World} {B : Nat} (h : Below B w w') : Keep (fun k => B ≤ k) w w' :=
  ⟨h.os, h.tape, h.output, h.size, fun k _ hn => h.block k (by omega)⟩

theorem Keep.cell {S : Nat → Prop} {w w' : World} (h : Keep S w w') {p : Addr} (hp : p.block < w.heap.size) (hn : ¬ S p.block) : w'.cell? p = w.cell? p := World.cell?_of_block (w := w) (h.block p.block hp hn)

/-- A block of two cells that may be written. -/
def Two (w : World) (b : Nat) (T : TypeId) (x y : Value) : Prop := w.heap[b]? = some (.cells #[x, y] T (0, 0))

theorem Two.lt {w : World} {b : Nat} {T : TypeId} {x y : Value} (h : Two w b T x y) : b < w.heap.size := lt_of_block h
theorem Two.fst {w : World} {b : Nat} {T : TypeId} {x y : Value} (h : Two w b T x y) : w.cell? ⟨b, 0, none⟩ = some x := by unfold Two at h; simp [World.cell?, h]
theorem Two.snd {w : World} {b : Nat} {T : TypeId} {x y : Value} (h : Two w b T x y) : w.cell? ⟨b, 1, none⟩ = some y := by unfold Two at h; simp [World.cell?, h]
theorem Two.free {w : World} {b : Nat} {T : TypeId} {x y : Value} (h : Two w b T x y) (o : Nat) : w.frozen? ⟨b, o, none⟩ = false := by unfold Two at h; simp [World.frozen?, h]
theorem Two.keep {S : Nat → Prop} {w w' : World} {b : Nat} {T : TypeId} {x y : Value} (h : Two w b T x y) (k : Keep S w w') (hn : ¬ S b) : Two w' b T x y := (k.block b h.lt hn).trans h
theorem Two.new (w : World) (T : TypeId) (x y : Value) : Two (w.alloc (.cells #[x, y] T (0, 0))) w.heap.size T x y := heap_alloc_new _ _
theorem Two.drewN {w : World} {b : Nat} {T : TypeId} {x y : Value} (h : Two w b T x y) (n : Nat) : Two (w.drewN n) b T x y := h
theorem Two.setSnd {w : World} {b : Nat} {T : TypeId} {x y : Value} (h : Two w b T x y) (u : Value) : Two (w.setCell ⟨b, 1, none⟩ u) b T x u := by
  have hlt := h.lt
  have h' : w.heap[b] = .cells #[x, y] T (0, 0) := by simpa [Two, Array.getElem?_eq_getElem hlt] using h
  show (w.heap.modify b _)[b]? = _
  rw [Array.getElem?_eq_getElem (by simpa using hlt), Array.getElem_modify_self, h']
  rfl

end Go.Proofs.Ytjakpmmjlmiekaa
