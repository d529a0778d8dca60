/- A record put into its place in a row of records: plain lists, and the store of a whole record. -/
import Derived.Test.YthgkhhgabpebmaaAll
import Derived.Deep.MidRow
import Derived.Deep.RegionLaw
namespace Go.Proofs.Ythgkhhgabpebmaa
open Go.RowKit
set_option linter.unusedVariables false
set_option linter.unusedSimpArgs false

def ins {α : Type} (l : List α) (k : Nat) (x : α) : List α := l.take k ++ x :: l.drop k

theorem ins_length {α : Type} (l : List α) {k : Nat} (x : α) (hk : k ≤ l.length) : (ins l k x).length = l.length + 1 := by
  unfold ins
  rw [List.length_append, List.length_cons, List.length_take, List.length_drop]
  omega

theorem ins_get {α : Type} (l : List α) {k : Nat} (x : α) (hk : k ≤ l.length) (j : Nat) : (ins l k x)[j]? = if j < k then l[j]? else if j = k then some x else l[j - 1]? := by
  unfold ins
  have hl : (l.take k).length = k := by rw [List.length_take]; omega
  by_cases h1 : j < k
  · rw [if_pos h1, List.getElem?_append_left (by omega), List.getElem?_take_of_lt h1]
  · rw [if_neg h1, List.getElem?_append_right (by omega), hl]
    by_cases h2 : j = k
    · subst h2; simp
    · rw [if_neg h2]
      obtain ⟨m, hm⟩ : ∃ m, j - k = m + 1 := ⟨j - k - 1, by omega⟩
      rw [hm, List.getElem?_cons_succ, List.getElem?_drop]
      congr 1
      omega

theorem ins_end {α : Type} (l : List α) (x : α) : ins l l.length x = l ++ [x] := by simp [ins]

theorem ins_perm {α : Type} (l : List α) (k : Nat) (x : α) : (ins l k x).Perm (l ++ [x]) := by
  unfold ins
  refine (List.perm_middle).trans ?_
  rw [List.take_append_drop]
  exact (List.perm_append_singleton x l).symm

theorem ins_swap {α : Type} (l : List α) {p : Nat} (x y : α) (hy : l[p]? = some y) : ((ins l (p + 1) x).set (p + 1) y).set p x = ins l p x ∧ ((ins l (p + 1) x).set p x).set (p + 1) y = ins l p x := by
  have hp : p < l.length := (List.getElem?_eq_some_iff.1 hy).1
  have h1 : l.take (p + 1) = l.take p ++ [y] := by rw [List.take_add_one, hy]; rfl
  have h2 : l.drop p = y :: l.drop (p + 1) := by
    obtain ⟨h3, rfl⟩ := List.getElem?_eq_some_iff.1 hy
    exact List.drop_eq_getElem_cons h3
  have hl : (l.take p).length = p := by rw [List.length_take]; omega
  unfold ins
  rw [h1, h2]
  generalize l.take p = A at hl ⊢
  subst hl
  simp [List.set_append_right]

theorem Each.ins {R : Rq → RC → Prop} {xs : List Rq} {cs : List RC} (h : Each R xs cs) {x : Rq} {c : RC} (hx : R x c) {k : Nat} (hk : k ≤ xs.length) : Each R (ins xs k x) (ins cs k c) := by
  have hk' : k ≤ cs.length := by rw [← h.len]; exact hk
  refine ⟨by rw [ins_length _ _ hk, ins_length _ _ hk', h.len], fun j y d hy hd => ?_⟩
  rw [ins_get _ _ hk] at hy
  rw [ins_get _ _ hk'] at hd
  split at hy
  · rename_i h1
    rw [if_pos h1] at hd
    exact h.get j y d hy hd
  · rename_i h1
    rw [if_neg h1] at hd
    split at hy
    · rename_i h2
      rw [if_pos h2] at hd
      simp at hy hd
      subst hy hd
      exact hx
    · rename_i h2
      rw [if_neg h2] at hd
      exact h.get _ y d hy hd

/-- Put into its place among those that rise. -/
theorem ins_rising {S : List RC} {c : RC} {k : Nat} (hS : Rising S) (hk : k ≤ S.length) (hlo : ∀ p y, k = p + 1 → S[p]? = some y → y.lsn < c.lsn) (hhi : ∀ d ∈ S.drop k, c.lsn < d.lsn) : Rising (ins S k c) := by
  have hp := hS.pairwise
  refine rising_of ?_
  unfold ins
  rw [← List.take_append_drop k S] at hp
  rw [List.pairwise_append] at hp ⊢
  obtain ⟨h1, h2, h3⟩ := hp
  refine ⟨h1, List.pairwise_cons.2 ⟨hhi, h2⟩, fun a ha b hb => ?_⟩
  have hac : a.lsn < c.lsn := by
    rcases k with _ | p
    · simp at ha
    · obtain ⟨y, hy⟩ : ∃ y, S[p]? = some y := ⟨_, List.getElem?_eq_getElem (by omega)⟩
      have hyc := hlo p y rfl hy
      rw [List.take_add_one, hy] at ha h1
      rcases List.mem_append.1 ha with ha | ha
      · have := (List.pairwise_append.1 h1).2.2 a ha y (by simp)
        omega
      · simp at ha
        subst ha
        exact hyc
  rcases List.mem_cons.1 hb with rfl | hb
  · exact hac
  · exact h3 a ha b hb

/-- A list written over from a place on. -/
def setR : List Value → Nat → List Value → List Value
  | xs, _, [] => xs
  | xs, o, v :: r => setR (xs.set o v) (o + 1) r

theorem setR_append (A : List Value) : ∀ (vs R : List Value) (o : Nat), setR (A ++ R) (A.length + o) vs = A ++ setR R o vs
  | [], R, o => rfl
  | v :: r, R, o => by
    show setR ((A ++ R).set (A.length + o) v) (A.length + o + 1) r = A ++ setR (R.set o v) (o + 1) r
    rw [← setR_append A r (R.set o v) (o + 1), List.set_append_right _ _ (by omega), show A.length + o - A.length = o by omega, Nat.add_assoc]

theorem setR_head : ∀ (vs A R : List Value), A.length = vs.length → setR (A ++ R) 0 vs = vs ++ R
  | [], [], R, _ => rfl
  | v :: r, a :: A, R, h => by
    show setR (v :: (A ++ R)) (0 + 1) r = v :: (r ++ R)
    have h1 := setR_append [v] r (A ++ R) 0
    simp only [List.length_singleton, Nat.add_zero, List.singleton_append] at h1
    rw [Nat.zero_add, h1, setR_head r A R (by simpa using h)]

theorem allcells_cons (z : Rq) (r : List Rq) : allcells (z :: r) = z.cells ++ allcells r := rfl

theorem cells_len (z : Rq) : z.cells.length = 12 := rfl

theorem setR_rec (q : Rq) (zs : List Rq) : ∀ (j : Nat), j < zs.length → setR (allcells zs) (j * 12) q.cells = allcells (zs.set j q) := by
  induction zs with
  | nil => intro j h; simp at h
  | cons z r ih =>
    intro j h
    rcases j with _ | j
    · rw [List.set_cons_zero, allcells_cons, allcells_cons, Nat.zero_mul]
      exact setR_head q.cells z.cells (allcells r) (by rw [cells_len, cells_len])
    · have e : (j + 1) * 12 = z.cells.length + j * 12 := by rw [cells_len]; omega
      rw [e, List.set_cons_succ, allcells_cons, allcells_cons, setR_append, ih j (by simpa using h)]

theorem owns_setR {base g n cap : Nat} {e : TypeId} {size : Nat} : ∀ (vs : List Value) (o : Nat) (w : World) (xs : List Value), w.ownsRow base e size (.slice (some ⟨g, 0, none⟩) n cap) n xs →
    (w.setCells g o vs).ownsRow base e size (.slice (some ⟨g, 0, none⟩) n cap) n (setR xs o vs) ∧ Keep (fun b => b = g) w (w.setCells g o vs)
  | [], o, w, xs, h => ⟨h, Keep.refl _ _⟩
  | v :: r, o, w, xs, h => by
    obtain ⟨h1, h2⟩ := owns_setR r (o + 1) (w.setCell ⟨g, o, none⟩ v) (xs.set o v) (h.stored o v).1
    exact ⟨h1, (Keep.setCell (Keep.refl (fun k => k = g) w) (p := ⟨g, o, none⟩) (.inl rfl) v).trans h2 (fun _ h => .inl h)⟩

/-- Where a record of a row lies. -/
theorem owns_rec {w : World} {base g n cap : Nat} {zs : List Rq} (h : w.ownsRow base 59 12 (.slice (some ⟨g, 0, none⟩) n cap) n (allcells zs)) {j : Nat} {q : Rq} (hq : zs[j]? = some q) : RecCells w g (j * 12) q :=
  .of_at fun i u hu => by
    have := h.cells rfl _ _ (allcells_at zs j q hq i u hu)
    rwa [Go.WideShapes.add_plain, Nat.zero_add] at this

theorem rec_there {w : World} {base g n cap : Nat} {zs : List Rq} (hown : w.ownsRow base 59 12 (.slice (some ⟨g, 0, none⟩) n cap) n (allcells zs)) {j : Nat} (hj : j < zs.length) : w.there g (j * 12) 12 := by
  intro i hi3
  obtain ⟨z, hz⟩ : ∃ z, zs[j]? = some z := ⟨_, List.getElem?_eq_getElem hj⟩
  obtain ⟨u, hu⟩ : ∃ u, z.cells[i]? = some u := ⟨_, List.getElem?_eq_getElem (by simp [Rq.cells]; omega)⟩
  have h3 := hown.cells rfl _ _ (allcells_at zs j z hz i u hu)
  rw [Go.WideShapes.add_plain, Nat.zero_add] at h3
  obtain ⟨cur, hc⟩ := owns_cells hown (b := g) rfl
  exact ⟨by rw [h3]; rfl, by simp [World.frozen?, hc]⟩

theorem rec_range {w : World} {base g n cap : Nat} {zs : List Rq} (hown : w.ownsRow base 59 12 (.slice (some ⟨g, 0, none⟩) n cap) n (allcells zs)) {j : Nat} {z : Rq} (hz : zs[j]? = some z) : w.rangeAt g (j * 12) z.cells := by
  intro i u hu
  have h3 := hown.cells rfl _ _ (allcells_at zs j z hz i u hu)
  rwa [Go.WideShapes.add_plain, Nat.zero_add] at h3

/-- Two records exchanged. -/
theorem rec_swap {w : World} {base g n cap : Nat} {ys : List Rq} {k p : Nat} {x y : Rq} (hown : w.ownsRow base 59 12 (.slice (some ⟨g, 0, none⟩) n cap) n (allcells (ins ys k x))) (hp : p + 1 = k) (hy : ys[p]? = some y) (hl : k ≤ ys.length) :
    ((w.setCells g (k * 12) y.cells).setCells g (p * 12) x.cells).ownsRow base 59 12 (.slice (some ⟨g, 0, none⟩) n cap) n (allcells (ins ys p x)) ∧ Keep (fun b => b = g) w ((w.setCells g (k * 12) y.cells).setCells g (p * 12) x.cells) := by
  subst hp
  have hz := ins_length ys x hl
  obtain ⟨h1, k1⟩ := owns_setR y.cells ((p + 1) * 12) w _ hown
  rw [setR_rec y _ (p + 1) (by rw [hz]; omega)] at h1
  obtain ⟨h2, k2⟩ := owns_setR x.cells (p * 12) _ _ h1
  rw [setR_rec x _ p (by rw [List.length_set, hz]; omega), (ins_swap ys x y hy).1] at h2
  exact ⟨h2, k1.trans k2 (fun _ h => .inl h)⟩

theorem step_store_rec {P : Program} {ops : Array Oper} {o : Oper} {a : Act} {w : World} {K : Act → World → Prop} {Q : Exit → Act → World → Prop} {E : Prop}
    (hg : o.guard = none) (x y : Operand) (ty : TypeId) (ho : o.op = .store ty x y) (hi : (P.info? ty).map (·.size) = some 12)
    (base g n cap : Nat) (zs : List Rq) (hown : w.ownsRow base 59 12 (.slice (some ⟨g, 0, none⟩) n cap) n (allcells zs)) (j : Nat) (hj : j < zs.length) (q : Rq)
    (hx : a.eval x = .pointer (some ⟨g, j * 12, none⟩)) (hy : a.eval y = .agg q.cells.toArray)
    (hK : ∀ w', w'.ownsRow base 59 12 (.slice (some ⟨g, 0, none⟩) n cap) n (allcells (zs.set j q)) → Keep (fun b => b = g) w w' → K (a.put o.dst undef) w') :
    if Region.wanted o (yielded ops a.tmps) = true then Oper.wp P o a w K Q else E := by
  have hw : Region.wanted o (yielded ops a.tmps) = true := by simp [Region.wanted, hg]
  rw [if_pos hw]
  obtain ⟨h1, h2⟩ := owns_setR q.cells (j * 12) w (allcells zs) hown
  rw [setR_rec q zs j hj] at h1
  refine wp_store_mid ty x y ho g (j * 12) q.cells.toArray hx hy ?_ (by rw [hi]; rfl) (all_oneCell_toArray q.one) (by rw [List.toList_toArray]; exact hK _ h1 h2)
  intro i hi2
  have hi3 : i < 12 := by simpa [Rq.cells] using hi2
  obtain ⟨z, hz⟩ : ∃ z, zs[j]? = some z := ⟨_, List.getElem?_eq_getElem hj⟩
  obtain ⟨u, hu⟩ : ∃ u, z.cells[i]? = some u := ⟨_, List.getElem?_eq_getElem (by simp [Rq.cells]; omega)⟩
  have h3 := hown.cells rfl _ _ (allcells_at zs j z hz i u hu)
  rw [Go.WideShapes.add_plain, Nat.zero_add] at h3
  obtain ⟨cur, hc⟩ := owns_cells hown (b := g) rfl
  exact ⟨by rw [h3]; rfl, by simp [World.frozen?, hc]⟩

/-- The same, as the walk's simp may meet it. -/
theorem run_store_rec {P : Program} {w : World} (ty : TypeId) (hi : (P.info? ty).map (·.size) = some 12) {base g n cap : Nat} {zs : List Rq} (hown : w.ownsRow base 59 12 (.slice (some ⟨g, 0, none⟩) n cap) n (allcells zs)) {j : Nat} (hj : j < zs.length) (q : Rq) :
    ∃ w', (Instr.storeAt ty (.pointer (some ⟨g, j * 12, none⟩)) (.agg q.cells.toArray)).run P w = .ok () w' ∧ w'.ownsRow base 59 12 (.slice (some ⟨g, 0, none⟩) n cap) n (allcells (zs.set j q)) ∧ Keep (fun b => b = g) w w' := by
  obtain ⟨h1, h2⟩ := owns_setR q.cells (j * 12) w (allcells zs) hown
  rw [setR_rec q zs j hj] at h1
  refine ⟨_, run_storeAt_mid w g (j * 12) ty q.cells.toArray ?_ (by rw [hi]; rfl) (all_oneCell_toArray q.one), h1, h2⟩
  intro i hi2
  have hi3 : i < 12 := by simpa [Rq.cells] using hi2
  obtain ⟨z, hz⟩ : ∃ z, zs[j]? = some z := ⟨_, List.getElem?_eq_getElem hj⟩
  obtain ⟨u, hu⟩ : ∃ u, z.cells[i]? = some u := ⟨_, List.getElem?_eq_getElem (by simp [Rq.cells]; omega)⟩
  have h3 := hown.cells rfl _ _ (allcells_at zs j z hz i u hu)
  rw [Go.WideShapes.add_plain, Nat.zero_add] at h3
  obtain ⟨cur, hc⟩ := owns_cells hown (b := g) rfl
  exact ⟨by rw [h3]; rfl, by simp [World.frozen?, hc]⟩

end Go.Proofs.Ythgkhhgabpebmaa
