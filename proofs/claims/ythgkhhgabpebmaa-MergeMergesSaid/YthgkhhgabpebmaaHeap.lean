/- Worlds that agree but for some blocks ('Keep'), and what a block of two cells gives: facts on memory alone, of no program. -/
import Derived.WalkKit
import Derived.Laws.OwnMore
import Derived.OneCell
import Derived.Deep.Draws
import Derived.Deep.QuietTactic
import Derived.Laws.AppendOwnNone
namespace Go.Proofs.Ythgkhhgabpebmaa
open Go.RowKit
set_option linter.unusedVariables false
set_option linter.unusedSimpArgs false

/-- Of the blocks that were there none has turned but those of S. -/
structure Keep (S : Nat → Prop) (w w' : World) : Prop where
  os : w'.os = w.os
  tape : w'.tape = w.tape
  output : w'.output = w.output
  size : w.heap.size ≤ w'.heap.size
  block : ∀ k, k < w.heap.size → ¬ S k → w'.heap[k]? = w.heap[k]?

theorem Keep.refl (S : Nat → Prop) (w : World) : Keep S w w := ⟨rfl, rfl, rfl, Nat.le_refl _, fun _ _ _ => rfl⟩

theorem Keep.trans {S T : Nat → Prop} {a b c : World} (h : Keep S a b) (k : Keep T b c) (hT : ∀ i, T i → S i ∨ a.heap.size ≤ i) : Keep S a c :=
  ⟨k.os.trans h.os, k.tape.trans h.tape, k.output.trans h.output, Nat.le_trans h.size k.size, fun i hi hn =>
    (k.block i (Nat.lt_of_lt_of_le hi h.size) (fun t => (hT i t).elim hn (fun h' => by omega))).trans (h.block i hi hn)⟩

theorem Keep.mono {S T : Nat → Prop} {a b : World} (h : Keep S a b) (hS : ∀ i, S i → T i) : Keep T a b :=
  ⟨h.os, h.tape, h.output, h.size, fun i hi hn => h.block i hi (fun s => hn (hS i s))⟩

theorem Keep.drew {S : Nat → Prop} {a w : World} (h : Keep S a w) : Keep S a w.drew := ⟨h.os, h.tape, h.output, h.size, h.block⟩
theorem Keep.drewN {S : Nat → Prop} {a w : World} (h : Keep S a w) (n : Nat) : Keep S a (w.drewN n) := ⟨h.os, h.tape, h.output, h.size, h.block⟩

theorem Keep.alloc {S : Nat → Prop} {a w : World} (h : Keep S a w) (o : Obj) : Keep S a (w.alloc o) :=
  h.trans (T := fun _ => False) ⟨rfl, rfl, rfl, by simp, fun k hk _ => Below.heap_alloc _ _ _ hk⟩ (fun _ t => t.elim)

theorem Keep.setCell {S : Nat → Prop} {a w : World} (h : Keep S a w) {p : Addr} (hp : S p.block ∨ a.heap.size ≤ p.block) (u : Value) : Keep S a (w.setCell p u) :=
  h.trans (T := fun i => i = p.block) ⟨rfl, rfl, rfl, by simp [World.setCell], fun k _ hn => Below.heap_setCell _ _ _ _ hn⟩ (fun _ t => by subst t; exact hp)

theorem Keep.below {S : Nat → Prop} {w w' : World} (h : Keep S w w') {B : Nat} (hB : B ≤ w.heap.size) (hS : ∀ k, k < B → ¬ S k) : Below B w w' :=
  ⟨h.os, h.tape, h.output, h.size, fun k hk => h.block k (by omega) (hS k hk)⟩

theorem Keep.ofBelow {w w' : World} {B : Nat} (h : Below B w w') : Keep (fun k => B ≤ k) w w' :=
  ⟨h.os, h.tape, h.output, h.size, fun k _ hn => h.block k (by omega)⟩

theorem Keep.cell {S : Nat → Prop} {w w' : World} (h : Keep S w w') {p : Addr} (hp : p.block < w.heap.size) (hn : ¬ S p.block) : w'.cell? p = w.cell? p := World.cell?_of_block (w := w) (h.block p.block hp hn)

/-- A block of two cells that may be written. -/
def Two (w : World) (b : Nat) (T : TypeId) (x y : Value) : Prop := w.heap[b]? = some (.cells #[x, y] T (0, 0))

theorem Two.lt {w : World} {b : Nat} {T : TypeId} {x y : Value} (h : Two w b T x y) : b < w.heap.size := lt_of_block h
theorem Two.fst {w : World} {b : Nat} {T : TypeId} {x y : Value} (h : Two w b T x y) : w.cell? ⟨b, 0, none⟩ = some x := by unfold Two at h; simp [World.cell?, h]
theorem Two.snd {w : World} {b : Nat} {T : TypeId} {x y : Value} (h : Two w b T x y) : w.cell? ⟨b, 1, none⟩ = some y := by unfold Two at h; simp [World.cell?, h]
theorem Two.free {w : World} {b : Nat} {T : TypeId} {x y : Value} (h : Two w b T x y) (o : Nat) : w.frozen? ⟨b, o, none⟩ = false := by unfold Two at h; simp [World.frozen?, h]
theorem Two.keep {S : Nat → Prop} {w w' : World} {b : Nat} {T : TypeId} {x y : Value} (h : Two w b T x y) (k : Keep S w w') (hn : ¬ S b) : Two w' b T x y := (k.block b h.lt hn).trans h
theorem Two.new (w : World) (T : TypeId) (x y : Value) : Two (w.alloc (.cells #[x, y] T (0, 0))) w.heap.size T x y := heap_alloc_new _ _
theorem Two.drewN {w : World} {b : Nat} {T : TypeId} {x y : Value} (h : Two w b T x y) (n : Nat) : Two (w.drewN n) b T x y := h
theorem Two.setSnd {w : World} {b : Nat} {T : TypeId} {x y : Value} (h : Two w b T x y) (u : Value) : Two (w.setCell ⟨b, 1, none⟩ u) b T x u := by
  have hlt := h.lt
  have h' : w.heap[b] = .cells #[x, y] T (0, 0) := by simpa [Two, Array.getElem?_eq_getElem hlt] using h
  show (w.heap.modify b _)[b]? = _
  rw [Array.getElem?_eq_getElem (by simpa using hlt), Array.getElem_modify_self, h']
  rfl

theorem Two.setFst {w : World} {b : Nat} {T : TypeId} {x y : Value} (h : Two w b T x y) (u : Value) : Two (w.setCell ⟨b, 0, none⟩ u) b T u y := by
  have hlt := h.lt
  have h' : w.heap[b] = .cells #[x, y] T (0, 0) := by simpa [Two, Array.getElem?_eq_getElem hlt] using h
  show (w.heap.modify b _)[b]? = _
  rw [Array.getElem?_eq_getElem (by simpa using hlt), Array.getElem_modify_self, h']
  rfl

theorem owns_keep {S : Nat → Prop} {w w' : World} {base size n : Nat} {e : TypeId} {v : Value} {xs : List Value} (h : w.ownsRow base e size v n xs) (k : Keep S w w') (hS : ∀ j, v.ownBlock = some j → ¬ S j) : w'.ownsRow base e size v n xs := by
  refine ⟨h.1, ?_⟩
  rcases h.2 with hn | ⟨g, cap, cur, rfl, hb, hg, r⟩
  · exact .inl hn
  · exact .inr ⟨g, cap, cur, rfl, hb, (k.block g (lt_of_block hg) (hS g rfl)).trans hg, r⟩

theorem Keep.grown {S : Nat → Prop} {a w w' : World} {row : Option Nat} (h : Keep S a w) (hg : w.grownBy w' row) (hr : ∀ k, row = some k → S k ∨ a.heap.size ≤ k) : Keep S a w' :=
  h.trans (T := fun i => row = some i) ⟨hg.os, hg.tape, hg.output, hg.size, fun k hk hn => hg.block k hk (fun e => hn e.symm)⟩ (fun i t => hr i t)

/-- A callee that leaves the world as it was, met in a region that draws its order. -/
theorem quiet_same {P : Program} {f : FuncId} {args : Array Value} {w : World} {n : Nat} {v : Value}
    (h : Calls P f args (w.drewN n) fun e w' => e = .returned v ∧ w.drewN n = w') : Calls P f args (w.drewN n) fun e w'' => e = .returned v ∧ ∃ m, w'' = w.drewN m :=
  h.mono fun _ _ ⟨he, hm⟩ => ⟨he, n, hm.symm⟩

/-- A block of cells that may be written. -/
def Blk (w : World) (b : Nat) (T : TypeId) (vs : List Value) : Prop := w.heap[b]? = some (.cells vs.toArray T (0, 0))

theorem Blk.lt {w : World} {b : Nat} {T : TypeId} {vs : List Value} (h : Blk w b T vs) : b < w.heap.size := lt_of_block h
theorem Blk.at {w : World} {b : Nat} {T : TypeId} {vs : List Value} (h : Blk w b T vs) {i : Nat} {v : Value} (hv : vs[i]? = some v) : w.cell? ⟨b, i, none⟩ = some v := by
  unfold Blk at h; simp [World.cell?, h, hv]
theorem Blk.free {w : World} {b : Nat} {T : TypeId} {vs : List Value} (h : Blk w b T vs) (o : Nat) : w.frozen? ⟨b, o, none⟩ = false := by unfold Blk at h; simp [World.frozen?, h]
theorem Blk.keep {S : Nat → Prop} {w w' : World} {b : Nat} {T : TypeId} {vs : List Value} (h : Blk w b T vs) (k : Keep S w w') (hn : ¬ S b) : Blk w' b T vs := (k.block b h.lt hn).trans h
theorem Blk.new (w : World) (T : TypeId) (vs : List Value) : Blk (w.alloc (.cells vs.toArray T (0, 0))) w.heap.size T vs := heap_alloc_new _ _
theorem Blk.set {w : World} {b : Nat} {T : TypeId} {vs : List Value} (h : Blk w b T vs) (i : Nat) (u : Value) : Blk (w.setCell ⟨b, i, none⟩ u) b T (vs.set i u) := by
  have hlt := h.lt
  have h' : w.heap[b] = .cells vs.toArray T (0, 0) := by simpa [Blk, Array.getElem?_eq_getElem hlt] using h
  show (w.heap.modify b _)[b]? = _
  rw [Array.getElem?_eq_getElem (by simpa using hlt), Array.getElem_modify_self, h']
  simp

theorem Keep.got {S : Nat → Prop} {w w' : World} (k : Keep S w w') {a : Addr} {v : Value} (h : w.cell? a = some v) (hn : ¬ S a.block) : w'.cell? a = some v :=
  (k.cell (World.block_lt_of_cell? _ _ h) hn).trans h

theorem Keep.none_trans {S : Nat → Prop} {a b c : World} (h : Keep S a b) (k : Keep (fun _ => False) b c) : Keep S a c := h.trans k (fun _ t => t.elim)

theorem owns_some {w : World} {base size n : Nat} {e : TypeId} {v : Value} {xs : List Value} (h : w.ownsRow base e size v n xs) (hn : v ≠ .slice none 0 0) :
    ∃ g cap, v = .slice (some ⟨g, 0, none⟩) n cap ∧ base ≤ g ∧ g < w.heap.size := by
  rcases h.2 with ⟨rfl, _⟩ | ⟨g, cap, cur, rfl, hb, hg, _⟩
  · exact absurd rfl hn
  · exact ⟨g, cap, rfl, hb, lt_of_block hg⟩

theorem owns_blk {w : World} {base size n g cap : Nat} {e : TypeId} {xs : List Value} (h : w.ownsRow base e size (.slice (some ⟨g, 0, none⟩) n cap) n xs) :
    ∃ cur, w.heap[g]? = some (.cells cur e (0, 0)) := by
  rcases h.2 with ⟨h, _⟩ | ⟨g', cap', cur, h, _, hg, _⟩
  · simp at h
  · simp only [Value.slice.injEq, Option.some.injEq, Addr.mk.injEq, and_true, true_and] at h
    obtain ⟨rfl, rfl⟩ := h
    exact ⟨cur, hg⟩

/-- Blocks of two element types are two blocks. -/
theorem ne_of_type {w : World} {g b : Nat} {e T : TypeId} {c d : Array Value} {f f' : Nat × Nat} (h : w.heap[g]? = some (.cells c e f)) (h' : w.heap[b]? = some (.cells d T f')) (ht : e ≠ T) : g ≠ b := by
  intro e'; subst e'; rw [h] at h'; simp at h'; exact ht h'.2.1

theorem add_block (a : Addr) (n : Nat) : (a.add n).block = a.block := by unfold Addr.add; split <;> rfl

/-- A slice from which is appended: nil; or an address at which its cells lie. -/
def Src (w : World) (a : Option Addr) (m c size : Nat) (xs : List Value) : Prop :=
  (a = none ∧ m = 0 ∧ c = 0 ∧ xs = []) ∨ ∃ ad, a = some ad ∧ xs.length = m * size ∧ (∀ j u, xs[j]? = some u → w.cell? (ad.add j) = some u) ∧ ∀ u ∈ xs, u.oneCell' = true

theorem Src.length {w : World} {a : Option Addr} {m c size : Nat} {xs : List Value} (h : Src w a m c size xs) : xs.length = m * size := by
  rcases h with ⟨_, rfl, _, rfl⟩ | ⟨ad, _, h, _⟩
  · simp
  · exact h

theorem Src.keep {S : Nat → Prop} {w w' : World} {a : Option Addr} {m c size : Nat} {xs : List Value} (h : Src w a m c size xs) (k : Keep S w w') (hS : ∀ ad, a = some ad → m ≠ 0 → ¬ S ad.block) : Src w' a m c size xs := by
  rcases h with h | ⟨ad, rfl, hl, hc, h1⟩
  · exact .inl h
  · refine .inr ⟨ad, rfl, hl, fun j u hu => k.got (hc j u hu) ?_, h1⟩
    rw [add_block]
    refine hS ad rfl (fun e => ?_)
    subst e
    simp at hl
    rw [hl] at hu
    simp at hu

theorem wpList_append_src {P : Program} {w : World} {ops : Array Oper} {rest : List Oper} {o : Oper} {a : Act} {Q : Exit → Act → World → Prop} (hgd : o.guard = none) (s x : Operand) (t : TypeId)
    (ho : o.op = .call { callee := .builtin .append, args := #[s, x], argTypes := #[t, t] })
    (base : Nat) (e : TypeId) (i : TypeInfo) (z : Value) (size bytes : Nat) (ht : P.underlying t = some (.slice e)) (hi : P.info? e = some i) (hz : i.zero = some z)
    (hsize : i.size = size) (hby : i.bytes = bytes) (hzs : z.cells.size = size) (hsz : 0 < size)
    (v : Value) (n : Nat) (xs : List Value) (hs : a.eval s = v) (hown : w.ownsRow base e size v n xs)
    (ad : Option Addr) (m c : Nat) (news : List Value) (hx : a.eval x = .slice ad m c) (hsrc : Src w ad m c size news)
    (h63 : n + m ≤ maxLen) (hbytes : (n + m) * bytes ≤ 140737488355328) (hbase : base ≤ w.heap.size)
    (h : ∀ v' w', w'.ownsRow base e size v' (n + m) (xs ++ news) → w.grownBy w' v.ownBlock → (v ≠ .slice none 0 0 → v' ≠ .slice none 0 0) → wpList P ops Q rest (a.put o.dst v') w') : wpList P ops Q (o :: rest) a w := by
  rcases hsrc with ⟨rfl, rfl, rfl, rfl⟩ | ⟨ad, rfl, hl, hc, h1⟩
  · exact wpList_append_own_none hgd s x t ho base e i size ht hi v n xs hs hown hx (h v w (by simpa using hown) ⟨rfl, rfl, rfl, Nat.le_refl _, fun _ _ _ => rfl⟩ (fun h => h))
  · exact wpList_append_own w hgd s x t ho base e i z size bytes ht hi hz hsize hby hzs hsz v n xs hs hown ad m c news hx hl hc h1 h63 hbytes hbase (fun v' w' h2 h3 h4 => h v' w' h2 h3 (fun hn e => hn (h4.1 e).1))

theorem owns_base {w : World} {base base' size n : Nat} {e : TypeId} {v : Value} {xs : List Value} (h : w.ownsRow base e size v n xs) (hb : base' ≤ base) : w.ownsRow base' e size v n xs := by
  refine ⟨h.1, ?_⟩
  rcases h.2 with hn | ⟨g, cap, cur, rfl, hg, r⟩
  · exact .inl hn
  · exact .inr ⟨g, cap, cur, rfl, Nat.le_trans hb hg, r⟩

theorem Blk.set9 {w : World} {b : Nat} {T : TypeId} {u0 u1 u2 u3 u4 u5 u6 u7 u8 : Value} (h : Blk w b T [u0, u1, u2, u3, u4, u5, u6, u7, u8]) (v0 v1 v2 v3 v4 v5 v6 v7 v8 : Value) :
    Blk (((((((((w.setCell ⟨b, 0, none⟩ v0).setCell ⟨b, 1, none⟩ v1).setCell ⟨b, 2, none⟩ v2).setCell ⟨b, 3, none⟩ v3).setCell ⟨b, 4, none⟩ v4).setCell ⟨b, 5, none⟩ v5).setCell ⟨b, 6, none⟩ v6).setCell ⟨b, 7, none⟩ v7).setCell ⟨b, 8, none⟩ v8) b T [v0, v1, v2, v3, v4, v5, v6, v7, v8] ∧ Keep (fun k => k = b) w (((((((((w.setCell ⟨b, 0, none⟩ v0).setCell ⟨b, 1, none⟩ v1).setCell ⟨b, 2, none⟩ v2).setCell ⟨b, 3, none⟩ v3).setCell ⟨b, 4, none⟩ v4).setCell ⟨b, 5, none⟩ v5).setCell ⟨b, 6, none⟩ v6).setCell ⟨b, 7, none⟩ v7).setCell ⟨b, 8, none⟩ v8) := by
  have KE : ∀ (W : World) (o : Nat) (u : Value), Keep (fun k => k = b) W (W.setCell ⟨b, o, none⟩ u) := fun W o u => Keep.setCell (Keep.refl (fun k => k = b) W) (p := ⟨b, o, none⟩) (.inl rfl) u
  exact ⟨((((((((h.set 0 v0).set 1 v1).set 2 v2).set 3 v3).set 4 v4).set 5 v5).set 6 v6).set 7 v7).set 8 v8, ((((((((KE _ 0 v0).trans (KE _ 1 v1) (fun _ h => .inl h)).trans (KE _ 2 v2) (fun _ h => .inl h)).trans (KE _ 3 v3) (fun _ h => .inl h)).trans (KE _ 4 v4) (fun _ h => .inl h)).trans (KE _ 5 v5) (fun _ h => .inl h)).trans (KE _ 6 v6) (fun _ h => .inl h)).trans (KE _ 7 v7) (fun _ h => .inl h)).trans (KE _ 8 v8) (fun _ h => .inl h)⟩

theorem owns_src {w : World} {base size n c : Nat} {e : TypeId} {a : Option Addr} {xs : List Value} (h : w.ownsRow base e size (.slice a n c) n xs) (h1 : ∀ u ∈ xs, u.oneCell' = true) : Src w a n c size xs := by
  rcases h.2 with ⟨hv, hn⟩ | ⟨g, cap, cur, hv, _⟩
  · simp only [Value.slice.injEq] at hv
    obtain ⟨rfl, rfl, rfl⟩ := hv
    exact .inl ⟨rfl, rfl, rfl, by have := h.1; simpa using this⟩
  · simp only [Value.slice.injEq, true_and] at hv
    obtain ⟨rfl, rfl⟩ := hv
    exact .inr ⟨_, rfl, h.1, h.cells rfl, h1⟩

theorem owns_cells {w : World} {base size n : Nat} {e : TypeId} {v : Value} {xs : List Value} (h : w.ownsRow base e size v n xs) {b : Nat} (hb : v.ownBlock = some b) : ∃ cur, w.heap[b]? = some (.cells cur e (0, 0)) := by
  rcases h.2 with ⟨rfl, _⟩ | ⟨g, cap, cur, rfl, _, hg, _⟩
  · simp [Value.ownBlock] at hb
  · simp [Value.ownBlock] at hb; subst hb; exact ⟨cur, hg⟩

theorem owns_shape {w : World} {base size n : Nat} {e : TypeId} {v : Value} {xs : List Value} (h : w.ownsRow base e size v n xs) : ∃ a c, v = .slice a n c := by
  rcases h.2 with ⟨rfl, rfl⟩ | ⟨g, cap, cur, rfl, _⟩
  · exact ⟨_, _, rfl⟩
  · exact ⟨_, _, rfl⟩

theorem owns_ne {w : World} {base size n b : Nat} {e T : TypeId} {v : Value} {xs vs : List Value} (h : w.ownsRow base e size v n xs) (hb : Blk w b T vs) (ht : e ≠ T) {k : Nat} (hk : v.ownBlock = some k) : k ≠ b := by
  obtain ⟨cur, hc⟩ := owns_cells h hk
  exact ne_of_type hc hb ht

theorem Src.below {w wr : World} {a : Option Addr} {m c size : Nat} {xs : List Value} (h : Src w a m c size xs) (hb : Below w.heap.size w wr) : Src wr a m c size xs := by
  rcases h with h | ⟨ad, rfl, hl, hc, h1⟩
  · exact .inl h
  · exact .inr ⟨ad, rfl, hl, fun j u hu => (hb.cell (World.block_lt_of_cell? _ _ (hc j u hu))).trans (hc j u hu), h1⟩

/-- A list that has something stands at a plain place. -/
theorem Src.plain {w : World} {a : Option Addr} {m c size : Nat} {xs : List Value} (h : Src w a m c size xs) (hm : 0 < m) (hs : 0 < size) :
    ∃ g off, a = some ⟨g, off, none⟩ ∧ ∀ j u, xs[j]? = some u → w.cell? ⟨g, off + j, none⟩ = some u := by
  rcases h with ⟨_, rfl, _⟩ | ⟨ad, rfl, hl, hc, _⟩
  · omega
  · have hpos : 0 < xs.length := by rw [hl]; exact Nat.mul_pos hm hs
    obtain ⟨g, off, spot⟩ := ad
    have hspot : spot = none := by simpa [Addr.add] using World.cell?_spot (hc 0 _ (List.getElem?_eq_getElem hpos))
    subst hspot
    exact ⟨g, off, rfl, fun j u hu => by rw [← Go.WideShapes.add_plain]; exact hc j u hu⟩

/-- A block of cells made just now is a slice to read. -/
theorem src_new (w : World) (T : TypeId) (size : Nat) (vs : List Value) (hl : vs.length = 1 * size) (h1 : ∀ u ∈ vs, u.oneCell' = true) : Src (w.alloc (.cells vs.toArray T (0, 0))) (some ⟨w.heap.size, 0, none⟩) 1 1 size vs :=
  .inr ⟨_, rfl, hl, fun j u hu => by rw [Go.WideShapes.add_plain, Nat.zero_add]; exact (Blk.new w T vs).at hu, h1⟩

theorem keep0_below {w0 w w' : World} {B : Nat} (hb : Below B w0 w) (hk : Keep (fun _ => False) w w') (hB : B ≤ w.heap.size) : Below B w0 w' := hb.trans (hk.below hB (fun _ _ h => h))

/-- A struct of two cells is written over. -/
theorem set_two {w : World} {b T : Nat} {u0 u1 : Value} (h : Blk w b T [u0, u1]) (v0 v1 : Value) : Blk ((w.setCell ⟨b, 0, none⟩ v0).setCell ⟨b, 1, none⟩ v1) b T [v0, v1] ∧ Keep (fun k => k = b) w ((w.setCell ⟨b, 0, none⟩ v0).setCell ⟨b, 1, none⟩ v1) := by
  have KE : ∀ (W : World) (o : Nat) (u : Value), Keep (fun k => k = b) W (W.setCell ⟨b, o, none⟩ u) := fun W o u => Keep.setCell (Keep.refl (fun k => k = b) W) (p := ⟨b, o, none⟩) (.inl rfl) u
  exact ⟨(h.set 0 v0).set 1 v1, (KE _ 0 v0).trans (KE _ 1 v1) (fun _ h => .inl h)⟩

theorem new_one (w : World) (T : Nat) (ts : List Value) : Blk (w.alloc (.cells ts.toArray T)) w.heap.size T ts ∧ Keep (fun _ => False) w (w.alloc (.cells ts.toArray T)) := ⟨Blk.new w T ts, (Keep.refl _ _).alloc _⟩

/-- Two blocks, one behind the other. -/
theorem new_two (w : World) (T U : Nat) (ts us : List Value) : Blk ((w.alloc (.cells ts.toArray T)).alloc (.cells us.toArray U)) w.heap.size T ts ∧ Blk ((w.alloc (.cells ts.toArray T)).alloc (.cells us.toArray U)) (w.heap.size + 1) U us ∧ Keep (fun _ => False) w ((w.alloc (.cells ts.toArray T)).alloc (.cells us.toArray U)) := by
  have h1 := Blk.new w T ts
  have h2 := Blk.new (w.alloc (.cells ts.toArray T)) U us
  have s2 : (w.alloc (.cells ts.toArray T)).heap.size = w.heap.size + 1 := by simp
  rw [s2] at h2
  exact ⟨h1.keep ((Keep.refl (fun _ => False) _).alloc _) (fun h => h), h2, ((Keep.refl _ _).alloc _).alloc _⟩

theorem below_drewN {B : Nat} {a w : World} (h : Below B a w) (n : Nat) : Below B a (w.drewN n) := ⟨h.os, h.tape, h.output, h.size, h.block⟩

/-- Two places of a row exchanged. -/
theorem owns_swap {w : World} {base g n cap : Nat} {e : TypeId} {xs : List Value} (h : w.ownsRow base e 1 (.slice (some ⟨g, 0, none⟩) n cap) n xs) (i j : Nat) (u v : Value) :
    ((w.setCell ⟨g, i, none⟩ u).setCell ⟨g, j, none⟩ v).ownsRow base e 1 (.slice (some ⟨g, 0, none⟩) n cap) n ((xs.set i u).set j v) ∧ Keep (fun b => b = g) w ((w.setCell ⟨g, i, none⟩ u).setCell ⟨g, j, none⟩ v) := by
  have KE : ∀ (W : World) (o : Nat) (u : Value), Keep (fun k => k = g) W (W.setCell ⟨g, o, none⟩ u) := fun W o u => Keep.setCell (Keep.refl (fun k => k = g) W) (p := ⟨g, o, none⟩) (.inl rfl) u
  exact ⟨((h.stored i u).1.stored j v).1, (KE w i u).trans (KE _ j v) (fun _ h => .inl h)⟩

/-- A row cut at its end. -/
theorem owns_take {w : World} {base g n cap : Nat} {e : TypeId} {xs : List Value} (h : w.ownsRow base e 1 (.slice (some ⟨g, 0, none⟩) n cap) n xs) {m : Nat} (hm : m ≤ n) : w.ownsRow base e 1 (.slice (some ⟨g, 0, none⟩) m cap) m (xs.take m) := by
  have hl := h.1
  refine ⟨by rw [List.length_take]; omega, ?_⟩
  rcases h.2 with ⟨hv, _⟩ | ⟨g', cap', cur, hv, hb, hg, h1, h2, h3, h4⟩
  · simp at hv
  · simp only [Value.slice.injEq, Option.some.injEq, Addr.mk.injEq, and_true, true_and] at hv
    obtain ⟨rfl, rfl⟩ := hv
    refine .inr ⟨g, cap, cur, rfl, hb, hg, by omega, h2, h3, ?_⟩
    rw [← h4, List.take_take]
    congr 1
    omega

theorem owns_cap {w : World} {base g n cap : Nat} {e : TypeId} {xs : List Value} (h : w.ownsRow base e 1 (.slice (some ⟨g, 0, none⟩) n cap) n xs) : n ≤ cap ∧ cap ≤ maxLen := by
  rcases h.2 with ⟨hv, _⟩ | ⟨g', cap', cur, hv, hb, hg, h1, h2, h3, h4⟩
  · simp at hv
  · simp only [Value.slice.injEq, Option.some.injEq, Addr.mk.injEq, and_true, true_and] at hv
    obtain ⟨rfl, rfl⟩ := hv
    exact ⟨h1, h2⟩

/-- A callee that draws, met in a region that draws, behind another such region. -/
theorem quiet_add {P : Program} {f : FuncId} {args : Array Value} {w : World} {a n : Nat} {v : Value}
    (h : Calls P f args (w.drewN (a + n)) fun e w' => e = .returned v ∧ ∃ m, w' = (w.drewN (a + n)).drewN m) :
    Calls P f args (w.drewN (a + n)) fun e w'' => e = .returned v ∧ ∃ m, w'' = w.drewN (a + m) :=
  h.mono fun _ _ ⟨he, m, hm⟩ => ⟨he, n + m, by rw [hm, World.drewN_drewN, Nat.add_assoc]⟩

end Go.Proofs.Ythgkhhgabpebmaa
