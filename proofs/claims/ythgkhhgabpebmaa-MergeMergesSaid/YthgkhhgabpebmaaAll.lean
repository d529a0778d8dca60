/- Records told, put together, and their rows written over: what stays. -/
import Derived.Test.YthgkhhgabpebmaaChain
import Derived.Test.YthgkhhgabpebmaaGiven
import Derived.Maps.AppendAt
namespace Go.Proofs.Ythgkhhgabpebmaa
open Go.RowKit
set_option linter.unusedVariables false
set_option linter.unusedSimpArgs false

/-- append, and where the new slice lies. -/
theorem wpList_append_put {P : Program} {w : World} {ops : Array Oper} {rest : List Oper} {o : Oper} {a : Act} {Q : Exit → Act → World → Prop} (hgd : o.guard = none) (s x : Operand) (t : TypeId)
    (ho : o.op = .call { callee := .builtin .append, args := #[s, x], argTypes := #[t, t] })
    (base : Nat) (e : TypeId) (i : TypeInfo) (z : Value) (size bytes : Nat) (ht : P.underlying t = some (.slice e)) (hi : P.info? e = some i) (hz : i.zero = some z)
    (hsize : i.size = size) (hby : i.bytes = bytes) (hzs : z.cells.size = size) (hsz : 0 < size)
    (v : Value) (n : Nat) (xs : List Value) (hs : a.eval s = v) (hown : w.ownsRow base e size v n xs)
    (ad : Option Addr) (m c : Nat) (news : List Value) (hx : a.eval x = .slice ad m c) (hsrc : Src w ad m c size news)
    (h63 : n + m ≤ maxLen) (hbytes : (n + m) * bytes ≤ 140737488355328) (hbase : base ≤ w.heap.size)
    (h : ∀ v' w', w'.ownsRow base e size v' (n + m) (xs ++ news) → w.grownBy w' v.ownBlock → (∀ j, v'.ownBlock = some j → v.ownBlock = some j ∨ w.heap.size ≤ j) → wpList P ops Q rest (a.put o.dst v') w') : wpList P ops Q (o :: rest) a w := by
  rcases hsrc with ⟨rfl, rfl, rfl, rfl⟩ | ⟨ad, rfl, hl, hc, h1⟩
  · exact wpList_append_own_none hgd s x t ho base e i size ht hi v n xs hs hown hx (h v w (by simpa using hown) ⟨rfl, rfl, rfl, Nat.le_refl _, fun _ _ _ => rfl⟩ (fun j hj => .inl hj))
  · refine wpList_append_own_at w hgd s x t ho base e i z size bytes ht hi hz hsize hby hzs hsz v n xs hs hown ad m c news hx hl hc h1 h63 hbytes hbase (fun v' w' h2 h3 h4 h5 => h v' w' h2 h3 (fun j hj => ?_))
    rcases h5 with h5 | h5
    · exact .inl (by rw [← h5]; exact hj)
    · rw [h5] at hj
      simp at hj
      exact .inr (by omega)

/-- A record whose rows lie in blocks of one's own. -/
structure Mine (w : World) (base : Nat) (x : Rq) : Prop where
  ts : x.tl ≠ 0 → ∃ g cur, x.ta = some ⟨g, 0, none⟩ ∧ base ≤ g ∧ w.heap[g]? = some (.cells cur 63 (0, 0)) ∧ x.tl * 3 ≤ cur.size
  ds : x.dl ≠ 0 → ∃ g cur, x.da = some ⟨g, 0, none⟩ ∧ base ≤ g ∧ w.heap[g]? = some (.cells cur 65 (0, 0)) ∧ x.dl * 2 ≤ cur.size
  tn : x.tl ≤ 1000
  dn : x.dl ≤ 1000

theorem owns_mine {w : World} {base size n c : Nat} {e : TypeId} {a : Option Addr} {xs : List Value} (h : w.ownsRow base e size (.slice a n c) n xs) (hn : n ≠ 0) : ∃ g cur, a = some ⟨g, 0, none⟩ ∧ base ≤ g ∧ w.heap[g]? = some (.cells cur e (0, 0)) ∧ n * size ≤ cur.size := by
  rcases h.2 with ⟨hv, h0⟩ | ⟨g, cap, cur, hv, hb, hg, h1, h2, h3, h4⟩
  · exact absurd h0 hn
  · simp only [Value.slice.injEq, true_and] at hv
    obtain ⟨rfl, rfl⟩ := hv
    exact ⟨g, cur, rfl, hb, hg, by rw [h3]; exact Nat.mul_le_mul_right _ h1⟩

theorem Holds.mine {w : World} {base : Nat} {x : Rq} {c : RC} (h : Holds w base x c) (hf : c.few) : Mine w base x :=
  ⟨fun hn => owns_mine h.ts hn, fun hn => owns_mine h.ds hn, by have := h.reads.len; have := hf.1; omega, by have := h.reads.len; have := hf.2; omega⟩

theorem Mine.base {w : World} {base base' : Nat} {x : Rq} (h : Mine w base x) (hb : base' ≤ base) : Mine w base' x :=
  ⟨fun hn => by obtain ⟨g, cur, h1, h2, h3⟩ := h.ts hn; exact ⟨g, cur, h1, by omega, h3⟩, fun hn => by obtain ⟨g, cur, h1, h2, h3⟩ := h.ds hn; exact ⟨g, cur, h1, by omega, h3⟩, h.tn, h.dn⟩

/-- The blocks keep their kind and their length. -/
structure Shape (base : Nat) (w w' : World) : Prop where
  below : Below base w w'
  blk : ∀ g cur T, base ≤ g → w.heap[g]? = some (.cells cur T (0, 0)) → ∃ cur', w'.heap[g]? = some (.cells cur' T (0, 0)) ∧ cur'.size = cur.size ∧ (T ≠ 63 → T ≠ 65 → cur' = cur)

theorem Shape.refl (base : Nat) (w : World) : Shape base w w := ⟨Below.refl _ _, fun g cur T _ h => ⟨cur, h, rfl, fun _ _ => rfl⟩⟩

theorem Shape.set {base : Nat} {w w' : World} (h : Shape base w w') {g T : Nat} {cur : Array Value} (hb : base ≤ g) (hg : w'.heap[g]? = some (.cells cur T (0, 0))) (hT : T = 63 ∨ T = 65) (o : Nat) (v : Value) :
    Shape base w (w'.setCell ⟨g, o, none⟩ v) ∧ ∃ cur', (w'.setCell ⟨g, o, none⟩ v).heap[g]? = some (.cells cur' T (0, 0)) ∧ cur'.size = cur.size := by
  have hk : Keep (fun k => k = g) w' (w'.setCell ⟨g, o, none⟩ v) := Keep.setCell (Keep.refl (fun k => k = g) w') (p := ⟨g, o, none⟩) (.inl rfl) v
  have hlt := lt_of_block hg
  have h' : w'.heap[g] = .cells cur T (0, 0) := by simpa [Array.getElem?_eq_getElem hlt] using hg
  have hnew : (w'.setCell ⟨g, o, none⟩ v).heap[g]? = some (.cells (cur.setIfInBounds o v) T (0, 0)) := by
    show (w'.heap.modify g _)[g]? = _
    rw [Array.getElem?_eq_getElem (by simpa using hlt), Array.getElem_modify_self, h']
    simp
  refine ⟨⟨h.below.trans (hk.below (by omega) (fun b hb' e => by omega)), fun g1 cur1 T1 hb1 h1 => ?_⟩, _, hnew, by simp⟩
  obtain ⟨cur2, h2, h3, h4⟩ := h.blk g1 cur1 T1 hb1 h1
  by_cases e : g1 = g
  · subst e
    rw [hg] at h2
    simp at h2
    obtain ⟨rfl, rfl⟩ := h2
    exact ⟨_, hnew, by simpa using h3, fun n1 n2 => by rcases hT with rfl | rfl; exact absurd rfl n1; exact absurd rfl n2⟩
  · exact ⟨cur2, (hk.block g1 (lt_of_block h2) e).trans h2, h3, h4⟩

theorem Mine.shape {base base0 : Nat} {w w' : World} {x : Rq} (h : Mine w base x) (k : Shape base w w') : Mine w' base x :=
  ⟨fun hn => by
    obtain ⟨g, cur, h1, h2, h3, h4⟩ := h.ts hn
    obtain ⟨cur', k1, k2, _⟩ := k.blk g cur 63 h2 h3
    exact ⟨g, cur', h1, h2, k1, by omega⟩, fun hn => by
    obtain ⟨g, cur, h1, h2, h3, h4⟩ := h.ds hn
    obtain ⟨cur', k1, k2, _⟩ := k.blk g cur 65 h2 h3
    exact ⟨g, cur', h1, h2, k1, by omega⟩, h.tn, h.dn⟩

theorem Mine.keep {S : Nat → Prop} {w w' : World} {base : Nat} {x : Rq} (h : Mine w base x) (k : Keep S w w') (hS : ∀ g cur T, w.heap[g]? = some (.cells cur T (0, 0)) → T = 63 ∨ T = 65 → ¬ S g) : Mine w' base x :=
  ⟨fun hn => by
    obtain ⟨g, cur, h1, h2, h3, h4⟩ := h.ts hn
    exact ⟨g, cur, h1, h2, (k.block g (lt_of_block h3) (hS g cur 63 h3 (.inl rfl))).trans h3, h4⟩, fun hn => by
    obtain ⟨g, cur, h1, h2, h3, h4⟩ := h.ds hn
    exact ⟨g, cur, h1, h2, (k.block g (lt_of_block h3) (hS g cur 65 h3 (.inr rfl))).trans h3, h4⟩, h.tn, h.dn⟩

/-- Records put together: a row of one's own, and rows of one's own. -/
structure All (w : World) (base : Nat) (a : Option Addr) (n c : Nat) (xs : List Rq) : Prop where
  row : w.ownsRow base 59 12 (.slice a n c) n (allcells xs)
  len : xs.length = n
  mine : ∀ x ∈ xs, Mine w base x

theorem All.nil (w : World) (base : Nat) : All w base none 0 0 [] := ⟨World.ownsRow_nil _ _ _ _, rfl, fun x hx => by simp at hx⟩

theorem All.keep0 {w w' : World} {base : Nat} {a : Option Addr} {n c : Nat} {xs : List Rq} (h : All w base a n c xs) (k : Keep (fun _ => False) w w') : All w' base a n c xs :=
  ⟨owns_keep h.row k (fun _ _ h => h), h.len, fun x hx => (h.mine x hx).keep k (fun _ _ _ _ _ h => h)⟩

theorem Told.src {w : World} {base : Nat} {a : Option Addr} {n c : Nat} {cs : List RC} {xs : List Rq} (h : Told w base a n c cs xs) : Src w a n c 12 (allcells xs) := owns_src h.row (allcells_one _)

theorem Told.mine {w : World} {base : Nat} {a : Option Addr} {n c : Nat} {cs : List RC} {xs : List Rq} (h : Told w base a n c cs xs) (hf : ∀ d ∈ cs, d.few) : ∀ x ∈ xs, Mine w base x := fun x hx => by
  obtain ⟨d, hd, hh⟩ := h.each.mem hx
  exact hh.mine (hf d hd)

/-- One more list put behind. -/
theorem All.put {w w' : World} {base base2 : Nat} {a a2 a' : Option Addr} {n n2 c c2 c' : Nat} {cs : List RC} {xs ys : List Rq} (h : All w base a n c xs) (hy : Told w base2 a2 n2 c2 cs ys) (hb : base ≤ base2) (hf : ∀ d ∈ cs, d.few)
    (k : Keep (fun j => (Value.slice a n c).ownBlock = some j) w w') (hr : w'.ownsRow base 59 12 (.slice a' (n + n2) c') (n + n2) (allcells xs ++ allcells ys)) : All w' base a' (n + n2) c' (xs ++ ys) := by
  have hS : ∀ g cur T, w.heap[g]? = some (.cells cur T (0, 0)) → T = 63 ∨ T = 65 → ¬ (Value.slice a n c).ownBlock = some g := fun g cur T hg hT e => by
    obtain ⟨cur2, h2⟩ := owns_cells h.row e
    rw [hg] at h2
    simp at h2
    rcases hT with rfl | rfl
    · exact absurd h2.2 (by decide)
    · exact absurd h2.2 (by decide)
  refine ⟨by rw [allcells_append]; exact hr, by rw [List.length_append, h.len, hy.len], fun x hx => ?_⟩
  rcases List.mem_append.1 hx with hx | hx
  · exact (h.mine x hx).keep k hS
  · exact ((hy.mine hf x hx).base hb).keep k hS

/-- A list told stays where another row than its own grows. -/
theorem Told.apart {w w' : World} {base : Nat} {a : Option Addr} {n c : Nat} {cs : List RC} {xs : List Rq} (h : Told w base a n c cs xs) {v : Value} {k b0 : Nat} {vs : List Value} (hv : w.ownsRow b0 59 12 v k vs)
    (kp : Keep (fun j => v.ownBlock = some j) w w') (hne : ∀ j, (Value.slice a n c).ownBlock = some j → ¬ v.ownBlock = some j) : Told w' base a n c cs xs := by
  refine ⟨owns_keep h.row kp hne, h.each.mono (fun x d _ hx => hx.keep kp (fun b hb e => ?_)), h.len⟩
  obtain ⟨cur, hc⟩ := owns_cells hv e
  exact hx.apart hb hc (by decide) (by decide) rfl

theorem Told.base {w : World} {base base' : Nat} {a : Option Addr} {n c : Nat} {cs : List RC} {xs : List Rq} (h : Told w base a n c cs xs) (hb : base' ≤ base) : Told w base' a n c cs xs :=
  ⟨owns_base h.row hb, h.each.mono (fun x d _ hx => hx.base hb), h.len⟩

/-- The cells of a row of records stand while rows of other kinds are written over. -/
theorem All.recs {base : Nat} {w w' : World} {a : Option Addr} {n c : Nat} {xs : List Rq} (h : All w base a n c xs) (k : Shape base w w') {j : Nat} {x : Rq} (hx : xs[j]? = some x) :
    ∃ g off, a = some ⟨g, off, none⟩ ∧ RecCells w' g (off + j * 12) x := by
  have hj : j < n := by rw [← h.len]; exact (List.getElem?_eq_some_iff.1 hx).1
  obtain ⟨g, cur, rfl, hb, hg, hs⟩ := owns_mine h.row (by omega)
  refine ⟨g, 0, rfl, .of_at fun i u hu => ?_⟩
  have h1 := h.row.cells rfl _ _ (allcells_at xs j x hx i u hu)
  rw [Go.WideShapes.add_plain] at h1
  obtain ⟨cur', k1, _, k3⟩ := k.blk g cur 59 hb hg
  have e := k3 (by decide) (by decide)
  subst e
  rw [Nat.add_assoc]
  simp only [World.cell?] at h1 ⊢
  rw [k1]
  rw [hg] at h1
  exact h1

theorem cells_at {w : World} {g T : Nat} {cur : Array Value} (hg : w.heap[g]? = some (.cells cur T (0, 0))) {o : Nat} (ho : o < cur.size) : ∃ v, w.cell? ⟨g, o, none⟩ = some v ∧ w.frozen? ⟨g, o, none⟩ = false := by
  refine ⟨cur[o], ?_, ?_⟩
  · simp [World.cell?, hg, Array.getElem?_eq_getElem ho]
  · simp [World.frozen?, hg]

end Go.Proofs.Ythgkhhgabpebmaa
