/- What several logs are as one: plain lists. -/
import Derived.Test.YthgkhhgabpebmaaLess
import Derived.Test.YthgkhhgabpebmaaRises
namespace Go.Proofs.Ythgkhhgabpebmaa
open Go.RowKit
set_option linter.unusedVariables false
set_option linter.unusedSimpArgs false

/-- What comes of several logs: an error of one that doesn't rise; all of them in order; an error of a number that is there twice. -/
def Merged (cs : List (List RC)) (e : Int) (out : List RC) : Prop :=
  (e = 1 ∧ out = [] ∧ ∃ l ∈ cs, ¬ Rising l) ∨ ((∀ l ∈ cs, Rising l) ∧ ((e = 0 ∧ out.Perm cs.flatten ∧ Rising out) ∨ (e = 9 ∧ out = [] ∧ ¬ (cs.flatten.map RC.lsn).Nodup)))

theorem Rising.nodup {cs : List RC} (h : Rising cs) : (cs.map RC.lsn).Nodup := by
  have := h.pairwise
  rw [List.Nodup, List.pairwise_map]
  exact this.imp (fun {a b} hab => by omega)

theorem rising_unique {xs ys : List RC} (hx : Rising xs) (hy : Rising ys) (h : xs.Perm ys) : xs = ys :=
  List.Perm.eq_of_pairwise (le := fun a b : RC => a.lsn < b.lsn) (fun a b _ _ h1 h2 => by omega) hx.pairwise hy.pairwise h

/-- The answer is one, and doesn't hang on the logs' order. -/
theorem Merged.unique {cs ds : List (List RC)} {e f : Int} {xs ys : List RC} (h : Merged cs e xs) (k : Merged ds f ys) (hp : cs.Perm ds) : e = f ∧ xs = ys := by
  have hf : cs.flatten.Perm ds.flatten := hp.flatten
  have hn : (cs.flatten.map RC.lsn).Nodup ↔ (ds.flatten.map RC.lsn).Nodup := (hf.map _).nodup_iff
  rcases h with ⟨rfl, rfl, l, hl, hr⟩ | ⟨hall, h⟩
  · rcases k with ⟨rfl, rfl, _⟩ | ⟨hall', _⟩
    · exact ⟨rfl, rfl⟩
    · exact absurd (hall' l (hp.subset hl)) hr
  · rcases k with ⟨rfl, rfl, l, hl, hr⟩ | ⟨hall', k⟩
    · exact absurd (hall l (hp.symm.subset hl)) hr
    · rcases h with ⟨rfl, h1, h2⟩ | ⟨rfl, rfl, h1⟩
      · rcases k with ⟨rfl, k1, k2⟩ | ⟨rfl, rfl, k1⟩
        · exact ⟨rfl, rising_unique h2 k2 (h1.trans (hf.trans k1.symm))⟩
        · exact absurd (hn.1 (((h1.map _).nodup_iff).1 h2.nodup)) k1
      · rcases k with ⟨rfl, k1, k2⟩ | ⟨rfl, rfl, k1⟩
        · exact absurd (hn.2 (((k1.map _).nodup_iff).1 k2.nodup)) h1
        · exact ⟨rfl, rfl⟩

theorem Rising.head_le {c : RC} {r : List RC} (h : Rising (c :: r)) : ∀ s ∈ c :: r, c.lsn ≤ s.lsn := by
  intro s hs
  rcases List.mem_cons.1 hs with rfl | hs
  · exact Int.le_refl _
  · have := List.rel_of_pairwise_cons h.pairwise hs
    omega

theorem Rising.tail {c : RC} {r : List RC} (h : Rising (c :: r)) : Rising r := fun j a b ha hb => h (j + 1) a b (by simpa using ha) (by simpa using hb)

theorem Rising.snoc {cs : List RC} {c : RC} (h : Rising cs) (hl : ∀ d, cs[cs.length - 1]? = some d → d.lsn < c.lsn) : Rising (cs ++ [c]) := by
  intro j a b ha hb
  rw [List.getElem?_append] at ha hb
  split at hb
  · rw [if_pos (by omega)] at ha
    exact h j a b ha hb
  · rename_i hge
    split at ha
    · have e : j + 1 - cs.length = 0 := by omega
      rw [e] at hb
      simp at hb
      subst hb
      have : j = cs.length - 1 := by omega
      subst this
      exact hl a ha
    · rw [show j + 1 - cs.length = (j - cs.length) + 1 by omega] at hb
      simp at hb

/-- Under way: so many told, and what is left on the heap. -/
structure Inv (w : World) (F : List RC) (us : List Lg) (out : List RC) : Prop where
  rise : Rising out
  perm : (out ++ us.flatMap Lg.cs).Perm F
  le : ∀ r ∈ out, ∀ u ∈ us, ∀ s ∈ u.cs, r.lsn ≤ s.lsn
  ok : ∀ u ∈ us, u.Ok w ∧ Rising u.cs

theorem Inv.done {w : World} {F : List RC} {out : List RC} (h : Inv w F [] out) : out.Perm F ∧ Rising out := ⟨by simpa using h.perm, h.rise⟩

theorem Inv.twice {w : World} {F : List RC} {us : List Lg} {out : List RC} (h : Inv w F us out) {m : Lg} (hm : m ∈ us) {c d : RC} {r : List RC} (hc : m.cs = c :: r) (hd : d ∈ out) (he : d.lsn = c.lsn) : ¬ (F.map RC.lsn).Nodup := by
  intro hn
  have h1 := ((h.perm.map RC.lsn).nodup_iff).2 hn
  rw [List.map_append, List.nodup_append] at h1
  refine h1.2.2 _ (List.mem_map_of_mem hd) _ (List.mem_map_of_mem (f := RC.lsn) (List.mem_flatMap.2 ⟨m, hm, by rw [hc]; exact List.mem_cons_self⟩)) he

theorem Lg.Ok.key_le {w : World} {u : Lg} (h : u.Ok w) (hr : Rising u.cs) : ∀ s ∈ u.cs, u.key ≤ s.lsn := by
  intro s hs
  unfold Lg.key
  rcases hc : u.cs with _ | ⟨c, r⟩
  · rw [hc] at hs; simp at hs
  · rw [hc] at hs hr
    exact hr.head_le s hs

theorem Inv.next {w : World} {F : List RC} {us us' vs tl : List Lg} {out : List RC} (h : Inv w F us out) {m : Lg} (hp : (m :: vs).Perm us) (hmin : ∀ u ∈ us, m.key ≤ u.key) {c : RC} {r : List RC} (hc : m.cs = c :: r)
    (hne : ∀ d, out[out.length - 1]? = some d → d.lsn ≠ c.lsn) (hu : us'.Perm (tl ++ vs)) (htl : tl.flatMap Lg.cs = r) (hok : ∀ u ∈ tl, u.Ok w ∧ Rising u.cs) : Inv w F us' (out ++ [c]) := by
  have hmu : m ∈ us := hp.subset List.mem_cons_self
  have hkey : m.key = c.lsn := by unfold Lg.key; rw [hc]
  have memv : ∀ u ∈ vs, u ∈ us := fun u hu => hp.subset (List.mem_cons_of_mem _ hu)
  refine ⟨h.rise.snoc fun d hd => ?_, ?_, fun x hx u hu' s hs => ?_, fun u hu' => ?_⟩
  · have := h.le d (List.mem_of_getElem? hd) m hmu c (by rw [hc]; exact List.mem_cons_self)
    have := hne d hd
    omega
  · have e1 : (us'.flatMap Lg.cs).Perm (r ++ vs.flatMap Lg.cs) := by
      have := hu.flatMap_right Lg.cs
      rwa [List.flatMap_append, htl] at this
    have e2 : (us.flatMap Lg.cs).Perm (c :: (r ++ vs.flatMap Lg.cs)) := by
      have := (hp.flatMap_right Lg.cs).symm
      rwa [List.flatMap_cons, hc, List.cons_append] at this
    rw [List.append_assoc]
    exact (((e1.cons c).trans e2.symm).append_left out).trans h.perm
  · have hin : (u ∈ tl) ∨ u ∈ vs := by
      have := hu.subset hu'
      exact List.mem_append.1 this
    rcases List.mem_append.1 hx with hx | hx
    · rcases hin with hin | hin
      · have hs' : s ∈ r := by rw [← htl]; exact List.mem_flatMap.2 ⟨u, hin, hs⟩
        exact h.le x hx m hmu s (by rw [hc]; exact List.mem_cons_of_mem _ hs')
      · exact h.le x hx u (memv u hin) s hs
    · rw [List.mem_singleton] at hx
      subst hx
      rcases hin with hin | hin
      · have hs' : s ∈ r := by rw [← htl]; exact List.mem_flatMap.2 ⟨u, hin, hs⟩
        have hr := (h.ok m hmu).2
        rw [hc] at hr
        exact hr.head_le s (List.mem_cons_of_mem _ hs')
      · have h1 := hmin u (memv u hin)
        have h2 := (h.ok u (memv u hin)).1.key_le (h.ok u (memv u hin)).2 s hs
        omega
  · rcases List.mem_append.1 (hu.subset hu') with hin | hin
    · exact hok u hin
    · exact h.ok u (memv u hin)

theorem flat_le {us : List Lg} (h : ∀ u ∈ us, 1 ≤ u.cs.length) : us.length ≤ (us.flatMap Lg.cs).length := by
  induction us with
  | nil => simp
  | cons u r ih =>
    have h1 := h u List.mem_cons_self
    have h2 := ih (fun v hv => h v (List.mem_cons_of_mem _ hv))
    simp only [List.flatMap_cons, List.length_append, List.length_cons]
    omega

theorem Inv.size {w : World} {F : List RC} {us : List Lg} {out : List RC} (h : Inv w F us out) : out.length + us.length ≤ F.length := by
  have h1 := h.perm.length_eq
  rw [List.length_append] at h1
  have h2 := flat_le (us := us) (fun u hu => by have := (h.ok u hu).1; have h3 := this.recs.len; have := this.nonempty; omega)
  omega

theorem Inv.mem {w : World} {F : List RC} {us : List Lg} {out : List RC} (h : Inv w F us out) {u : Lg} (hu : u ∈ us) {c : RC} (hc : c ∈ u.cs) : c ∈ F :=
  h.perm.subset (List.mem_append_right _ (List.mem_flatMap.2 ⟨u, hu, hc⟩))

/-- At the start: nothing told, all logs that have something on the heap. -/
theorem Inv.start {w : World} {ls us : List Lg} (hp : us.Perm (ls.filter fun l => l.n != 0)) (hok : ∀ u ∈ us, u.Ok w) (hr : ∀ l ∈ ls, Rising l.cs) (hl : ∀ l ∈ ls, l.cs.length = l.n) : Inv w (ls.map Lg.cs).flatten us [] := by
  refine ⟨fun j c d h => by simp at h, ?_, fun r hr => by simp at hr, fun u hu => ⟨hok u hu, hr u ((List.mem_filter.1 (hp.subset hu)).1)⟩⟩
  have h1 : (us.flatMap Lg.cs).Perm ((ls.filter fun l => l.n != 0).flatMap Lg.cs) := hp.flatMap_right Lg.cs
  have h2 : ∀ ls : List Lg, (∀ l ∈ ls, l.cs.length = l.n) → (ls.filter fun l => l.n != 0).flatMap Lg.cs = (ls.map Lg.cs).flatten := by
    intro ls
    induction ls with
    | nil => intro _; rfl
    | cons l r ih =>
      intro hl
      have ihr := ih (fun u hu => hl u (List.mem_cons_of_mem _ hu))
      by_cases h0 : l.n = 0
      · have e : l.cs = [] := List.eq_nil_of_length_eq_zero (by rw [hl l List.mem_cons_self]; exact h0)
        rw [List.filter_cons_of_neg (by simp [h0]), ihr]
        simp [e]
      · rw [List.filter_cons_of_pos (by simp [h0]), List.flatMap_cons, ihr]
        simp
  rw [h2 ls hl] at h1
  simpa using h1

end Go.Proofs.Ythgkhhgabpebmaa
