/- The two nets of NetPlays side by side: what each holds, and that no message of the program's net shares a list with another one. -/
import Derived.Test.YtgphlopbbmjdhaaQueue
import Derived.Test.YtgphlopbbmjdhaaRefCut
import Derived.Test.YtgphlopbbmjdhaaKCuts
namespace Go.Proofs.Ytgphlopbbmjdhaa
open Go.RowKit Go.Conc
set_option linter.unusedVariables false
set_option linter.unusedSimpArgs false

/-- An item of the document's net and what its message says. -/
abbrev Pc := It × Cont

def selP (f t : Int) (ps : List Pc) : List Pc := ps.filter fun p => p.1.frm == f && p.1.dest == t

theorem selP_fst (f t : Int) (ps : List Pc) : (selP f t ps).map Prod.fst = sel f t (ps.map Prod.fst) := by
  unfold selP sel
  rw [List.filter_map]
  rfl

theorem selP_append (f t : Int) (xs ys : List Pc) : selP f t (xs ++ ys) = selP f t xs ++ selP f t ys := by simp [selP]

theorem selP_one (f t : Int) (p : Pc) : selP f t [p] = if p.1.frm = f ∧ p.1.dest = t then [p] else [] := by
  by_cases h : p.1.frm = f ∧ p.1.dest = t
  · rw [if_pos h]; exact List.filter_cons_of_pos (by simp [h])
  · rw [if_neg h]; exact List.filter_cons_of_neg (by simp; intro h1; exact fun h2 => h ⟨h1, h2⟩)

theorem mem_selP {f t : Int} {ps : List Pc} {p : Pc} (h : p ∈ selP f t ps) : p ∈ ps := (List.mem_filter.1 h).1

structure State (w : World) (base : Nat) (L : Lay) (q : Nat → List Qm) (ps : List Pc) : Prop where
  net : NetAt w L q
  held : ∀ p ∈ ps, Holds w base p.1.m p.2 ∧ p.2.few
  valid : ∀ p ∈ ps, ∃ i, rowIx L.n p.1.frm p.1.dest = some i
  rows : ∀ f t i, rowIx L.n f t = some i → Each (Holds w base) (q i) ((selP f t ps).map Prod.snd)
  aq : ∀ (i i' j j' : Nat) (x y : Qm), i < 2 * L.n → i' < 2 * L.n → (q i)[j]? = some x → (q i')[j']? = some y → (i ≠ i' ∨ j ≠ j') → Away x y
  ar : ∀ (i : Nat) (x : Qm) (p : Pc), i < 2 * L.n → x ∈ q i → p ∈ ps → Away x p.1.m
  sum : sumTo q L.n L.n = ps.length

theorem rowIx_of (n i : Nat) (h : i < 2 * n) : ∃ f t, rowIx n f t = some i := by
  by_cases hi : i < n
  · refine ⟨(i : Int) + 1, 0, ?_⟩
    unfold rowIx
    rw [if_neg (by omega), if_pos (by omega)]
    simp
  · refine ⟨0, ((i - n : Nat) : Int) + 1, ?_⟩
    unfold rowIx
    rw [if_pos (by omega)]
    simp; omega

theorem State.qheld {w : World} {base : Nat} {L : Lay} {q : Nat → List Qm} {ps : List Pc} (h : State w base L q ps) {i : Nat} (hi : i < 2 * L.n) {x : Qm} (hx : x ∈ q i) : ∃ c, Holds w base x c := by
  obtain ⟨f, t, hr⟩ := rowIx_of L.n i hi
  exact (h.rows f t i hr).mem hx

theorem State.start {w : World} {L : Lay} (base : Nat) (h : NetAt w L (fun _ => [])) : State w base L (fun _ => []) [] where
  net := h
  held := fun p hp => by simp at hp
  valid := fun p hp => by simp at hp
  rows := fun f t i _ => .nil _
  aq := fun i i' j j' x y _ _ hx => by simp at hx
  ar := fun i x p _ hx => by simp at hx
  sum := sumTo_zero _ _

/-- What is held stays held where nothing of it is written over. -/
theorem State.keep {S : Nat → Prop} {w w' : World} {base : Nat} {L : Lay} {q : Nat → List Qm} {ps : List Pc} (h : State w base L q ps) (k : Keep S w w') (hS : ∀ b, b < w.heap.size → ¬ S b) : State w' base L q ps where
  net := h.net.keep k (fun i hi => hS i (h.net.blk_lt hi))
  held := fun p hp => ⟨(h.held p hp).1.keep k (fun b hb => hS b ((h.held p hp).1.lt hb).2), (h.held p hp).2⟩
  valid := h.valid
  rows := fun f t i hr => (h.rows f t i hr).mono (fun x c _ hx => hx.keep k (fun b hb => hS b (hx.lt hb).2))
  aq := h.aq
  ar := h.ar
  sum := h.sum

/-- A block of cells that is no list of a message. -/
def Odd (w : World) (b : Nat) : Prop := ∃ cur T, w.heap[b]? = some (.cells cur T (0, 0)) ∧ T ≠ 67 ∧ T ≠ 3

theorem Holds.odd {w : World} {base : Nat} {x : Qm} {c : Cont} (h : Holds w base x c) {b : Nat} (hb : x.has b) : ¬ Odd w b := by
  rintro ⟨cur, T, hc, h1, h2⟩
  rcases hb with hb | hb
  · obtain ⟨cur2, hc2⟩ := owns_cells h.ws hb
    rw [hc] at hc2; simp at hc2; exact h1 hc2.2
  · obtain ⟨cur2, hc2⟩ := owns_cells h.ps hb
    rw [hc] at hc2; simp at hc2; exact h2 hc2.2

/-- What is held stays held: nothing was written but channels, blocks of other kinds, and what was made since. -/
theorem Holds.past {S : Nat → Prop} {w wE : World} {base : Nat} {L : Lay} {q : Nat → List Qm} (hN : NetAt w L q) (k : Keep S w wE) (hS : ∀ b, b < w.heap.size → S b → (∃ i, i < 2 * L.n ∧ b = L.c i) ∨ Odd w b) (y : Qm) (d : Cont) (hy : Holds w base y d) : Holds wE base y d :=
  hy.keep k (fun b hb e => by
    rcases hS b (hy.lt hb).2 e with ⟨i, hi, e⟩ | e
    · exact hy.not_blk hN hb hi e
    · exact hy.odd hb e)

/-- Written over were blocks of other kinds alone. -/
theorem State.odd {S : Nat → Prop} {w w' : World} {base : Nat} {L : Lay} {q : Nat → List Qm} {ps : List Pc} (h : State w base L q ps) (k : Keep S w w') (hS : ∀ b, b < w.heap.size → S b → Odd w b ∧ ¬ L.blk b) : State w' base L q ps where
  net := h.net.keep k (fun i hi e => (hS i (h.net.blk_lt hi) e).2 hi)
  held := fun p hp => ⟨Holds.past h.net k (fun b hb e => .inr (hS b hb e).1) _ _ (h.held p hp).1, (h.held p hp).2⟩
  valid := h.valid
  rows := fun f t i hr => (h.rows f t i hr).mono (fun x c _ hx => Holds.past h.net k (fun b hb e => .inr (hS b hb e).1) x c hx)
  aq := h.aq
  ar := h.ar
  sum := h.sum

/-- A message sent on both sides. -/
theorem State.send {w wE : World} {base B B' : Nat} {L : Lay} {q : Nat → List Qm} {ps : List Pc} (h : State w base L q ps) {f t : Int} {i : Nat} (hr : rowIx L.n f t = some i) {x m : Qm} {c : Cont}
    (hN : NetAt wE L (put q i (q i ++ [x]))) (old : ∀ (y : Qm) (d : Cont), Holds w base y d → Holds wE base y d) (hx : Holds wE B x c) (hm : Holds wE B' m c) (hB : w.heap.size ≤ B) (hB' : w.heap.size ≤ B') (hb : base ≤ w.heap.size) (hxm : Away x m) (hf : c.few) :
    State wE base L (put q i (q i ++ [x])) (ps ++ [(⟨f, t, m⟩, c)]) := by
  have hi := rowIx_lt hr
  have xnew : ∀ b, x.has b → w.heap.size ≤ b := fun b hb => by have := hx.lt hb; omega
  have mnew : ∀ b, m.has b → w.heap.size ≤ b := fun b hb => by have := hm.lt hb; omega
  have qold : ∀ j y, j < 2 * L.n → y ∈ q j → ∀ b, y.has b → b < w.heap.size := fun j y hj hy b hb => by obtain ⟨d, hd⟩ := h.qheld hj hy; exact (hd.lt hb).2
  -- what stands in a row of the new net
  have split : ∀ (j l : Nat) (y : Qm), (put q i (q i ++ [x]) j)[l]? = some y → (q j)[l]? = some y ∨ (j = i ∧ l = (q i).length ∧ y = x) := by
    intro j l y hy
    by_cases e : j = i
    · subst e
      rw [put_self, List.getElem?_append] at hy
      split at hy
      · exact .inl hy
      · rename_i hl
        by_cases e2 : l = (q j).length
        · subst e2; simp at hy; exact .inr ⟨rfl, rfl, hy.symm⟩
        · obtain ⟨n, hn⟩ : ∃ n, l - (q j).length = n + 1 := ⟨l - (q j).length - 1, by omega⟩
          rw [hn] at hy; simp at hy
    · rw [put_other _ _ e] at hy; exact .inl hy
  refine ⟨hN, fun p hp => ?_, fun p hp => ?_, fun f' t' i' hr' => ?_, ?_, ?_, ?_⟩
  · rcases List.mem_append.1 hp with hp | hp
    · exact ⟨old _ _ (h.held p hp).1, (h.held p hp).2⟩
    · rw [List.mem_singleton] at hp; subst hp; exact ⟨hm.base (by omega), hf⟩
  · rcases List.mem_append.1 hp with hp | hp
    · exact h.valid p hp
    · rw [List.mem_singleton] at hp; subst hp; exact ⟨i, hr⟩
  · rw [selP_append, selP_one]
    have h1 := (h.rows f' t' i' hr').mono (fun y d _ hy => old y d hy)
    by_cases e : i' = i
    · subst e
      obtain ⟨rfl, rfl⟩ := rowIx_inj hr hr'
      rw [put_self, if_pos ⟨rfl, rfl⟩, List.map_append]
      exact h1.snoc (hx.base (by omega))
    · rw [put_other _ _ e, if_neg (fun hh => by
        obtain ⟨rfl, rfl⟩ := hh
        rw [hr] at hr'
        simp at hr'
        exact e hr'.symm), List.append_nil]
      exact h1
  · intro j j' l l' y y' hj hj' hy hy' hne b hb hb'
    rcases split j l y hy with g | ⟨e1, e2, e3⟩
    · rcases split j' l' y' hy' with g' | ⟨e1, e2, e3⟩
      · exact h.aq j j' l l' y y' hj hj' g g' hne b hb hb'
      · rw [e3] at hb'
        have := qold j y hj (List.mem_of_getElem? g) b hb
        have := xnew b hb'
        omega
    · rcases split j' l' y' hy' with g' | ⟨e1', e2', e3'⟩
      · rw [e3] at hb
        have := qold j' y' hj' (List.mem_of_getElem? g') b hb'
        have := xnew b hb
        omega
      · rcases hne with h | h
        · exact h (e1.trans e1'.symm)
        · exact h (e2.trans e2'.symm)
  · intro j y p hj hy hp b hb hb'
    have hy2 : y ∈ q j ∨ y = x := by
      by_cases e : j = i
      · subst e
        rw [put_self] at hy
        rcases List.mem_append.1 hy with hy | hy
        · exact .inl hy
        · rw [List.mem_singleton] at hy; exact .inr hy
      · rw [put_other _ _ e] at hy; exact .inl hy
    rcases List.mem_append.1 hp with hp | hp
    · rcases hy2 with hy | rfl
      · exact h.ar j y p hj hy hp b hb hb'
      · have := ((h.held p hp).1.lt hb').2
        have := xnew b hb
        omega
    · rw [List.mem_singleton] at hp; subst hp
      rcases hy2 with hy | rfl
      · have := qold j y hj hy b hb
        have := mnew b hb'
        omega
      · exact hxm b hb hb'
  · have h1 := sum_put q i (q i ++ [x]) L.n hi
    have h2 := h.sum
    simp at h1 ⊢
    omega

end Go.Proofs.Ytgphlopbbmjdhaa
