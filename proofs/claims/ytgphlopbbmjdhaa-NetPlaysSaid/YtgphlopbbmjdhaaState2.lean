/- The two nets side by side: taken, looked at, cut. -/
import Derived.Test.YtgphlopbbmjdhaaState
namespace Go.Proofs.Ytgphlopbbmjdhaa
open Go.RowKit Go.Conc
set_option linter.unusedVariables false
set_option linter.unusedSimpArgs false

/-- The first of the items between two places, and what stands around it. -/
theorem selP_cons (f t : Int) : ∀ (ps : List Pc) (p0 : Pc) (more : List Pc), selP f t ps = p0 :: more →
    ∃ pre post, ps = pre ++ p0 :: post ∧ (∀ p ∈ pre, ¬ (p.1.frm = f ∧ p.1.dest = t)) ∧ (p0.1.frm = f ∧ p0.1.dest = t) ∧ selP f t post = more
  | [], p0, more, h => by simp [selP] at h
  | p :: ps, p0, more, h => by
    by_cases hp : p.1.frm = f ∧ p.1.dest = t
    · have e : selP f t (p :: ps) = p :: selP f t ps := List.filter_cons_of_pos (by simp [hp])
      rw [e] at h
      simp only [List.cons.injEq] at h
      obtain ⟨rfl, rfl⟩ := h
      exact ⟨[], ps, rfl, fun p hp => by simp at hp, hp, rfl⟩
    · have e : selP f t (p :: ps) = selP f t ps := List.filter_cons_of_neg (by simp; intro h1; exact fun h2 => hp ⟨h1, h2⟩)
      rw [e] at h
      obtain ⟨pre, post, rfl, h1, h2, h3⟩ := selP_cons f t ps p0 more h
      refine ⟨p :: pre, post, rfl, fun p' hp' => ?_, h2, h3⟩
      rcases List.mem_cons.1 hp' with rfl | hp'
      · exact hp
      · exact h1 p' hp'

theorem selP_none {f t : Int} {ps : List Pc} (h : ∀ p ∈ ps, ¬ (p.1.frm = f ∧ p.1.dest = t)) : selP f t ps = [] := by
  unfold selP
  rw [List.filter_eq_nil_iff]
  intro p hp
  have := h p hp
  simp
  intro h1
  exact fun h2 => this ⟨h1, h2⟩

/-- The first message of a row, taken on both sides, and its lists written over. -/
theorem State.take {w wE : World} {base : Nat} {L : Lay} {q : Nat → List Qm} {ps : List Pc} (h : State w base L q ps) {f t : Int} {i : Nat} (hr : rowIx L.n f t = some i) {x : Qm} {rest : List Qm} (hq : q i = x :: rest)
    {pre post : List Pc} {p0 : Pc} (hps : ps = pre ++ p0 :: post) (hpre : ∀ p ∈ pre, ¬ (p.1.frm = f ∧ p.1.dest = t)) (hp0 : p0.1.frm = f ∧ p0.1.dest = t)
    (hN : NetAt wE L (put q i rest)) (keepH : ∀ (y : Qm) (d : Cont), Holds w base y d → Away x y → Holds wE base y d) : State wE base L (put q i rest) (pre ++ post) := by
  have hi := rowIx_lt hr
  have hx0 : (q i)[0]? = some x := by rw [hq]; rfl
  have hxm : x ∈ q i := by rw [hq]; exact List.mem_cons_self
  have sub : ∀ p, p ∈ pre ++ post → p ∈ ps := fun p hp => by
    rw [hps]
    rcases List.mem_append.1 hp with hp | hp
    · exact List.mem_append_left _ hp
    · exact List.mem_append_right _ (List.mem_cons_of_mem _ hp)
  -- a message of the new rows stood in the old ones, not at the head of row i
  have split : ∀ (j l : Nat) (y : Qm), (put q i rest j)[l]? = some y → ∃ l', (q j)[l']? = some y ∧ (j = i → l' = l + 1) ∧ (j ≠ i → l' = l) := by
    intro j l y hy
    by_cases e : j = i
    · subst e
      rw [put_self] at hy
      exact ⟨l + 1, by rw [hq]; simpa using hy, fun _ => rfl, fun h => absurd rfl h⟩
    · rw [put_other _ _ e] at hy
      exact ⟨l, hy, fun h => absurd h e, fun _ => rfl⟩
  refine ⟨hN, fun p hp => ?_, fun p hp => h.valid p (sub p hp), fun f' t' i' hr' => ?_, ?_, ?_, ?_⟩
  · exact ⟨keepH _ _ (h.held p (sub p hp)).1 (h.ar i x p hi hxm (sub p hp)), (h.held p (sub p hp)).2⟩
  · have h1 := h.rows f' t' i' hr'
    by_cases e : i' = i
    · subst e
      obtain ⟨rfl, rfl⟩ := rowIx_inj hr hr'
      have e1 : selP f t ps = p0 :: selP f t post := by
        rw [hps, selP_append, selP_none hpre, List.nil_append]
        refine List.filter_cons_of_pos ?_
        rw [hp0.1, hp0.2]; simp
      rw [e1, hq] at h1
      rw [put_self, selP_append, selP_none hpre, List.nil_append]
      refine h1.tail.mono (fun y d hy hd => keepH y d hd ?_)
      obtain ⟨l, hl, rfl⟩ := List.mem_iff_getElem.1 hy
      exact h.aq i' i' 0 (l + 1) x _ hi hi hx0 (by rw [hq, List.getElem?_cons_succ]; exact List.getElem?_eq_getElem hl) (.inr (by omega))
    · have e1 : selP f' t' ps = selP f' t' (pre ++ post) := by
        rw [hps, selP_append, selP_append]
        congr 1
        refine List.filter_cons_of_neg (fun hh => ?_)
        simp at hh
        rw [hp0.1, hp0.2] at hh
        obtain ⟨rfl, rfl⟩ := hh
        rw [hr] at hr'
        simp at hr'
        exact e hr'.symm
      rw [put_other _ _ e, ← e1]
      refine h1.mono (fun y d hy hd => keepH y d hd ?_)
      obtain ⟨l, hl, rfl⟩ := List.mem_iff_getElem.1 hy
      exact h.aq i i' 0 l x _ hi (rowIx_lt hr') hx0 (List.getElem?_eq_getElem hl) (.inl (fun e' => e e'.symm))
  · intro j j' l l' y y' hj hj' hy hy' hne
    obtain ⟨m, hm, a1, a2⟩ := split j l y hy
    obtain ⟨m', hm', b1, b2⟩ := split j' l' y' hy'
    refine h.aq j j' m m' y y' hj hj' hm hm' ?_
    by_cases e : j = j'
    · refine .inr (fun e2 => ?_)
      rcases hne with hne | hne
      · exact hne e
      · by_cases ei : j = i
        · have := a1 ei; have := b1 (e ▸ ei); omega
        · have := a2 ei; have := b2 (e ▸ ei); omega
    · exact .inl e
  · intro j y p hj hy hp
    have hy' : y ∈ q j := by
      by_cases e : j = i
      · subst e; rw [put_self] at hy; rw [hq]; exact List.mem_cons_of_mem _ hy
      · rw [put_other _ _ e] at hy; exact hy
    exact h.ar j y p hj hy' (sub p hp)
  · have h1 := sum_put q i rest L.n hi
    have h2 := h.sum
    rw [hq] at h1
    rw [hps] at h2
    simp at h1 h2 ⊢
    omega

/-- A row that was looked at: what stands there says the same, in lists of its own. -/
theorem State.look {w wE : World} {base B : Nat} {L : Lay} {q : Nat → List Qm} {ps : List Pc} (h : State w base L q ps) {f t : Int} {i : Nat} (hr : rowIx L.n f t = some i) {ys : List Qm}
    (hN : NetAt wE L (put q i ys)) (hy : Each (Holds wE B) ys ((selP f t ps).map Prod.snd)) (ha : ys.Pairwise Away) (hB : w.heap.size ≤ B) (hb : base ≤ w.heap.size) (old : ∀ (y : Qm) (d : Cont), Holds w base y d → Holds wE base y d) : State wE base L (put q i ys) ps := by
  have hi := rowIx_lt hr
  have ynew : ∀ y ∈ ys, ∀ b, y.has b → w.heap.size ≤ b := fun y hy' b hb => by have := (has_lt hy hy' hb).1; omega
  have qold : ∀ j y, j < 2 * L.n → y ∈ q j → ∀ b, y.has b → b < w.heap.size := fun j y hj hy b hb => by obtain ⟨d, hd⟩ := h.qheld hj hy; exact (hd.lt hb).2
  have split : ∀ (j l : Nat) (y : Qm), (put q i ys j)[l]? = some y → (j = i ∧ ys[l]? = some y) ∨ (j ≠ i ∧ (q j)[l]? = some y) := by
    intro j l y hy
    by_cases e : j = i
    · subst e; rw [put_self] at hy; exact .inl ⟨rfl, hy⟩
    · rw [put_other _ _ e] at hy; exact .inr ⟨e, hy⟩
  have pw : ∀ (l l' : Nat) (y y' : Qm), ys[l]? = some y → ys[l']? = some y' → l ≠ l' → Away y y' := by
    intro l l' y y' hl hl' hne
    obtain ⟨h1, rfl⟩ := List.getElem?_eq_some_iff.1 hl
    obtain ⟨h2, rfl⟩ := List.getElem?_eq_some_iff.1 hl'
    rw [List.pairwise_iff_getElem] at ha
    rcases Nat.lt_or_gt_of_ne hne with g | g
    · exact ha l l' h1 h2 g
    · exact (ha l' l h2 h1 g).symm
  refine ⟨hN, fun p hp => ⟨old _ _ (h.held p hp).1, (h.held p hp).2⟩, h.valid, fun f' t' i' hr' => ?_, ?_, ?_, ?_⟩
  · by_cases e : i' = i
    · subst e
      obtain ⟨rfl, rfl⟩ := rowIx_inj hr hr'
      rw [put_self]
      exact hy.mono (fun y d _ hd => hd.base (by omega))
    · rw [put_other _ _ e]
      exact (h.rows f' t' i' hr').mono (fun y d _ hd => old y d hd)
  · intro j j' l l' y y' hj hj' g g' hne b hb hb'
    rcases split j l y g with ⟨e1, g⟩ | ⟨e1, g⟩
    · rcases split j' l' y' g' with ⟨e2, g'⟩ | ⟨e2, g'⟩
      · refine pw l l' y y' g g' ?_ b hb hb'
        rcases hne with hne | hne
        · exact absurd (e1.trans e2.symm) hne
        · exact hne
      · have := ynew y (List.mem_of_getElem? g) b hb
        have := qold j' y' hj' (List.mem_of_getElem? g') b hb'
        omega
    · rcases split j' l' y' g' with ⟨e2, g'⟩ | ⟨e2, g'⟩
      · have := ynew y' (List.mem_of_getElem? g') b hb'
        have := qold j y hj (List.mem_of_getElem? g) b hb
        omega
      · exact h.aq j j' l l' y y' hj hj' g g' hne b hb hb'
  · intro j y p hj g hp b hb hb'
    have hlt := ((h.held p hp).1.lt hb').2
    by_cases e : j = i
    · subst e
      rw [put_self] at g
      have := ynew y g b hb
      omega
    · rw [put_other _ _ e] at g
      exact h.ar j y p hj g hp b hb hb'
  · have h1 := sum_put q i ys L.n hi
    have h2 := h.sum
    have h3 := (h.rows f t i hr).len
    have h4 := hy.len
    omega

/-- The items of others. -/
def leftP (p : Int) (ps : List Pc) : List Pc := ps.filter fun z => z.1.frm != p && z.1.dest != p

theorem leftP_fst (p : Int) (ps : List Pc) : (leftP p ps).map Prod.fst = left p (ps.map Prod.fst) := by
  unfold leftP left
  rw [List.filter_map]
  rfl

theorem leftP_mem {p : Int} {ps : List Pc} {z : Pc} (h : z ∈ leftP p ps) : z ∈ ps ∧ z.1.frm ≠ p ∧ z.1.dest ≠ p := by
  unfold leftP at h
  rw [List.mem_filter] at h
  simpa using h

/-- Who is not of the two rows of a place is among the others. -/
theorem leftP_count {n : Nat} {p : Int} (hp : p ≠ 0) : ∀ (ps : List Pc), (∀ z ∈ ps, ∃ i, rowIx n z.1.frm z.1.dest = some i) → (leftP p ps).length + (selP p 0 ps).length + (selP 0 p ps).length = ps.length
  | [], _ => rfl
  | z :: ps, h => by
    have ih := leftP_count hp ps (fun y hy => h y (List.mem_cons_of_mem _ hy))
    obtain ⟨i, hi⟩ := h z List.mem_cons_self
    have hz : (z.1.frm = 0 ∧ z.1.dest ≠ 0) ∨ (z.1.dest = 0 ∧ z.1.frm ≠ 0) := by
      unfold rowIx at hi
      split at hi
      · rename_i g; left; omega
      · split at hi
        · rename_i g; right; omega
        · simp at hi
    have e : z :: ps = [z] ++ ps := rfl
    rw [e, selP_append, selP_append, selP_one, selP_one]
    have el : leftP p ([z] ++ ps) = (if z.1.frm = p ∨ z.1.dest = p then [] else [z]) ++ leftP p ps := by
      unfold leftP
      rw [List.filter_append]
      congr 1
      by_cases g : z.1.frm = p ∨ z.1.dest = p
      · rw [if_pos g]; exact List.filter_cons_of_neg (by simp; intro g1; rcases g with g | g; exact absurd g g1; exact g)
      · rw [if_neg g]; exact List.filter_cons_of_pos (by simp only [not_or] at g; simp [g.1, g.2])
    rw [el]
    by_cases g1 : z.1.frm = p
    · rw [if_pos (.inl g1), if_pos ⟨g1, by omega⟩, if_neg (by omega)]
      simp; omega
    · by_cases g2 : z.1.dest = p
      · rw [if_pos (.inr g2), if_neg (by omega), if_pos ⟨by omega, g2⟩]
        simp; omega
      · rw [if_neg (fun g => g.elim g1 g2), if_neg (fun g => g1 g.1), if_neg (fun g => g2 g.2)]
        simp; omega

/-- A place cut on both sides. -/
theorem State.cut {w wE : World} {base : Nat} {L : Lay} {q : Nat → List Qm} {ps : List Pc} (h : State w base L q ps) {p : Int} {iu id : Nat} (hu : rowIx L.n p 0 = some iu) (hd : rowIx L.n 0 p = some id) (hne : iu ≠ id)
    (hN : NetAt wE L (put (put q iu []) id [])) (keepH : ∀ (y : Qm) (d : Cont), Holds w base y d → Holds wE base y d) : State wE base L (put (put q iu []) id []) (leftP p ps) ∧ (q iu).length + (q id).length + (leftP p ps).length = ps.length := by
  have hiu := rowIx_lt hu
  have hid := rowIx_lt hd
  have hp : p ≠ 0 := fun e => by subst e; rw [hu] at hd; simp at hd; exact hne hd
  have hcount := leftP_count hp ps h.valid
  have l1 := (h.rows _ _ _ hu).len
  have l2 := (h.rows _ _ _ hd).len
  rw [List.length_map] at l1 l2
  have split : ∀ (j : Nat), (put (put q iu []) id [] j = [] ∧ (j = iu ∨ j = id)) ∨ (put (put q iu []) id [] j = q j ∧ j ≠ iu ∧ j ≠ id) := by
    intro j
    by_cases e1 : j = id
    · subst e1; rw [put_self]; exact .inl ⟨rfl, .inr rfl⟩
    · rw [put_other _ _ e1]
      by_cases e2 : j = iu
      · subst e2; rw [put_self]; exact .inl ⟨rfl, .inl rfl⟩
      · rw [put_other _ _ e2]; exact .inr ⟨rfl, e2, e1⟩
  refine ⟨⟨hN, fun z hz => ⟨keepH _ _ (h.held z (leftP_mem hz).1).1, (h.held z (leftP_mem hz).1).2⟩, fun z hz => h.valid z (leftP_mem hz).1, fun f t i hr => ?_, ?_, ?_, ?_⟩, by omega⟩
  · rcases split i with ⟨e, ei⟩ | ⟨e, n1, n2⟩
    · have es : selP f t (leftP p ps) = [] := selP_none fun z hz hh => by
        obtain ⟨_, g1, g2⟩ := leftP_mem hz
        rcases ei with rfl | rfl
        · exact g1 (hh.1.trans (rowIx_inj hr hu).1)
        · exact g2 (hh.2.trans (rowIx_inj hr hd).2)
      rw [e, es]
      exact .nil _
    · have es : selP f t (leftP p ps) = selP f t ps := by
        unfold selP leftP
        rw [List.filter_filter]
        refine List.filter_congr fun z hz => ?_
        by_cases hh : z.1.frm = f ∧ z.1.dest = t
        · have hf : f ≠ p := fun e => by
            subst e
            have : t = 0 := by
              unfold rowIx at hr
              split at hr
              · rename_i g; exact absurd g.1 hp
              · split at hr
                · rename_i g; exact g.1
                · simp at hr
            subst this
            rw [hu] at hr
            simp at hr
            exact n1 hr.symm
          have ht : t ≠ p := fun e => by
            subst e
            have : f = 0 := by
              unfold rowIx at hr
              split at hr
              · rename_i g; exact g.1
              · split at hr
                · rename_i g; exact absurd g.1 hp
                · simp at hr
            subst this
            rw [hd] at hr
            simp at hr
            exact n2 hr.symm
          simp [hh.1, hh.2, hf, ht]
        · have : (z.1.frm == f && z.1.dest == t) = false := by simp; intro h1; exact fun h2 => hh ⟨h1, h2⟩
          rw [this]; rfl
      rw [e, es]
      exact (h.rows f t i hr).mono (fun y d _ hy => keepH y d hy)
  · intro j j' l l' y y' hj hj' g g' hne'
    rcases split j with ⟨e, _⟩ | ⟨e, _, _⟩
    · rw [e] at g; simp at g
    · rcases split j' with ⟨e', _⟩ | ⟨e', _, _⟩
      · rw [e'] at g'; simp at g'
      · rw [e] at g; rw [e'] at g'
        exact h.aq j j' l l' y y' hj hj' g g' hne'
  · intro j y z hj g hz
    rcases split j with ⟨e, _⟩ | ⟨e, _, _⟩
    · rw [e] at g; simp at g
    · rw [e] at g; exact h.ar j y z hj g (leftP_mem hz).1
  · have s1 := sum_put q iu [] L.n hiu
    have s2 := sum_put (put q iu []) id [] L.n hid
    rw [put_other _ _ (Ne.symm hne)] at s2
    simp only [List.length_nil, Nat.add_zero] at s1 s2
    have s3 := h.sum
    omega

end Go.Proofs.Ytgphlopbbmjdhaa
