/- Heaps as lists: put one on, take the least off; nothing of the program here. -/
namespace Go.Proofs.Ythgkhhgabpebmaa
set_option linter.unusedVariables false
set_option linter.unusedSimpArgs false

section
variable {α : Type} (key : α → Int)

/-- Nobody is less than who stands above. -/
def Ord (us : List α) : Prop := ∀ (j : Nat) (a b : α), 0 < j → us[j]? = some a → us[(j - 1) / 2]? = some b → key b ≤ key a

/-- .. but perhaps the one at place i, on its way up. -/
def OrdUp (us : List α) (i : Nat) : Prop :=
  (∀ (j : Nat) (a b : α), 0 < j → j ≠ i → us[j]? = some a → us[(j - 1) / 2]? = some b → key b ≤ key a) ∧
  (0 < i → ∀ (j : Nat) (a b : α), 0 < j → (j - 1) / 2 = i → us[j]? = some a → us[(i - 1) / 2]? = some b → key b ≤ key a)

/-- .. but perhaps those below place i, on its way down. -/
def OrdDown (us : List α) (i : Nat) : Prop :=
  (∀ (j : Nat) (a b : α), 0 < j → (j - 1) / 2 ≠ i → us[j]? = some a → us[(j - 1) / 2]? = some b → key b ≤ key a) ∧
  (0 < i → ∀ (j : Nat) (a b : α), 0 < j → (j - 1) / 2 = i → us[j]? = some a → us[(i - 1) / 2]? = some b → key b ≤ key a)

/-- Two places exchanged. -/
def swp (us : List α) (i j : Nat) (a b : α) : List α := (us.set i b).set j a

theorem swp_length (us : List α) (i j : Nat) (a b : α) : (swp us i j a b).length = us.length := by simp [swp]

theorem swp_perm {us : List α} {i j : Nat} {a b : α} (ha : us[i]? = some a) (hb : us[j]? = some b) : (swp us i j a b).Perm us := by
  obtain ⟨h1, rfl⟩ := List.getElem?_eq_some_iff.1 ha
  obtain ⟨h2, rfl⟩ := List.getElem?_eq_some_iff.1 hb
  exact List.set_set_perm h1 h2

theorem swp_at {us : List α} {i j : Nat} {a b : α} (ha : us[i]? = some a) (hb : us[j]? = some b) (hij : i ≠ j) (k : Nat) : (swp us i j a b)[k]? = if k = i then some b else if k = j then some a else us[k]? := by
  have h1 : i < us.length := (List.getElem?_eq_some_iff.1 ha).1
  have h2 : j < us.length := (List.getElem?_eq_some_iff.1 hb).1
  unfold swp
  rw [List.getElem?_set, List.getElem?_set]
  by_cases e1 : j = k
  · subst e1
    rw [if_pos rfl, if_neg (Ne.symm hij), if_pos rfl, if_pos (by simpa using h2)]
  · rw [if_neg e1]
    by_cases e2 : i = k
    · subst e2
      rw [if_pos rfl, if_pos h1, if_pos rfl]
    · rw [if_neg e2, if_neg (Ne.symm e2), if_neg (Ne.symm e1)]

theorem Ord.nil : Ord key ([] : List α) := fun j a b _ h => by simp at h

theorem OrdUp.start {us : List α} (h : Ord key us) (x : α) : OrdUp key (us ++ [x]) us.length := by
  refine ⟨fun j a b hj hne ha hb => ?_, fun hi j a b hj he ha hb => ?_⟩
  · have hlt : j < (us ++ [x]).length := (List.getElem?_eq_some_iff.1 ha).1
    rw [List.length_append, List.length_singleton] at hlt
    rw [List.getElem?_append_left (by omega)] at ha
    rw [List.getElem?_append_left (by omega)] at hb
    exact h j a b hj ha hb
  · have hlt : j < (us ++ [x]).length := (List.getElem?_eq_some_iff.1 ha).1
    rw [List.length_append, List.length_singleton] at hlt
    omega

theorem OrdUp.step {us : List α} {i : Nat} {a b : α} (h : OrdUp key us i) (hi : 0 < i) (ha : us[i]? = some a) (hb : us[(i - 1) / 2]? = some b) (hlt : key a < key b) : OrdUp key (swp us i ((i - 1) / 2) a b) ((i - 1) / 2) := by
  have hne : i ≠ (i - 1) / 2 := by omega
  refine ⟨fun j x y hj hjp hx hy => ?_, fun hp j x y hj he hx hy => ?_⟩
  · rw [swp_at ha hb hne] at hx hy
    by_cases e1 : j = i
    · subst e1
      rw [if_pos rfl] at hx
      rw [if_neg (by omega), if_pos rfl] at hy
      simp only [Option.some.injEq] at hx hy
      subst hx hy
      omega
    · rw [if_neg e1, if_neg hjp] at hx
      by_cases e2 : (j - 1) / 2 = i
      · rw [if_pos e2] at hy
        simp only [Option.some.injEq] at hy
        subst hy
        exact h.2 hi j x _ hj e2 hx hb
      · rw [if_neg e2] at hy
        by_cases e3 : (j - 1) / 2 = (i - 1) / 2
        · rw [if_pos e3] at hy
          simp only [Option.some.injEq] at hy
          subst hy
          have := h.1 j x b hj e1 hx (by rw [e3]; exact hb)
          omega
        · rw [if_neg e3] at hy
          exact h.1 j x y hj e1 hx hy
  · rw [swp_at ha hb hne] at hx hy
    rw [if_neg (by omega), if_neg (by omega)] at hy
    by_cases e1 : j = i
    · subst e1
      rw [if_pos rfl] at hx
      simp only [Option.some.injEq] at hx
      subst hx
      exact h.1 ((j - 1) / 2) b y (by omega) (by omega) hb hy
    · rw [if_neg e1, if_neg (by omega)] at hx
      have h1 := h.1 j x b hj e1 hx (by rw [he]; exact hb)
      have h2 := h.1 ((i - 1) / 2) b y hp (by omega) hb hy
      omega

theorem OrdUp.root {us : List α} (h : OrdUp key us 0) : Ord key us := fun j a b hj ha hb => h.1 j a b hj (by omega) ha hb

theorem OrdUp.stop {us : List α} {i : Nat} {a b : α} (h : OrdUp key us i) (ha : us[i]? = some a) (hb : us[(i - 1) / 2]? = some b) (hle : key b ≤ key a) : Ord key us := by
  intro j x y hj hx hy
  by_cases e : j = i
  · subst e
    rw [ha] at hx
    rw [hb] at hy
    simp only [Option.some.injEq] at hx hy
    subst hx hy
    exact hle
  · exact h.1 j x y hj e hx hy

/-- The first is the least. -/
theorem Ord.least {us : List α} {m : α} (h : Ord key us) (hm : us[0]? = some m) : ∀ (j : Nat) (x : α), us[j]? = some x → key m ≤ key x := by
  intro j
  induction j using Nat.strongRecOn with
  | ind j ih =>
    intro x hx
    by_cases hj : j = 0
    · subst hj; rw [hm] at hx; simp only [Option.some.injEq] at hx; subst hx; exact Int.le_refl _
    · have hlt : j < us.length := (List.getElem?_eq_some_iff.1 hx).1
      obtain ⟨p, hp⟩ : ∃ p, us[(j - 1) / 2]? = some p := ⟨_, List.getElem?_eq_getElem (by omega)⟩
      have h1 := ih ((j - 1) / 2) (by omega) p hp
      have h2 := h j x p (by omega) hx hp
      omega

theorem OrdDown.start {us : List α} {x : α} {n : Nat} (h : Ord key us) (hn : us.length = n + 1) : OrdDown key ((us.set 0 x).take n) 0 := by
  refine ⟨fun j a b hj hne ha hb => ?_, fun h0 => by omega⟩
  rw [List.getElem?_take] at ha hb
  split at ha
  · rw [if_pos (by omega), List.getElem?_set, if_neg (by omega)] at hb
    rw [List.getElem?_set, if_neg (by omega)] at ha
    exact h j a b hj ha hb
  · simp at ha

theorem OrdDown.stop {us : List α} {i : Nat} (h : OrdDown key us i) (hs : ∀ (j : Nat) (a b : α), 0 < j → (j - 1) / 2 = i → us[j]? = some a → us[i]? = some b → key b ≤ key a) : Ord key us := by
  intro j x y hj hx hy
  by_cases e : (j - 1) / 2 = i
  · exact hs j x y hj e hx (by rw [← e]; exact hy)
  · exact h.1 j x y hj e hx hy

theorem OrdDown.leaf {us : List α} {i : Nat} (h : OrdDown key us i) (hn : us.length ≤ 2 * i + 1) : Ord key us :=
  h.stop _ fun j a b hj he ha _ => by
    have hlt : j < us.length := (List.getElem?_eq_some_iff.1 ha).1
    omega

/-- k: the lesser of the two below i, or the only one. -/
def Lesser (us : List α) (i k : Nat) (c : α) : Prop := us[k]? = some c ∧ (k = 2 * i + 1 ∨ k = 2 * i + 2) ∧ ∀ (j : Nat) (x : α), 0 < j → (j - 1) / 2 = i → us[j]? = some x → key c ≤ key x

theorem OrdDown.done {us : List α} {i k : Nat} {a c : α} (h : OrdDown key us i) (hk : Lesser key us i k c) (ha : us[i]? = some a) (hle : key a ≤ key c) : Ord key us :=
  h.stop _ fun j x b hj he hx hb => by
    rw [ha] at hb
    simp only [Option.some.injEq] at hb
    subst hb
    have := hk.2.2 j x hj he hx
    omega

theorem OrdDown.step {us : List α} {i k : Nat} {a c : α} (h : OrdDown key us i) (hk : Lesser key us i k c) (ha : us[i]? = some a) (hlt : key c < key a) : OrdDown key (swp us i k a c) k := by
  obtain ⟨hc, hk2, hmin⟩ := hk
  have hne : i ≠ k := by omega
  have hpk : (k - 1) / 2 = i := by omega
  refine ⟨fun j x y hj hjk hx hy => ?_, fun hp j x y hj he hx hy => ?_⟩
  · rw [swp_at ha hc hne] at hx hy
    rw [if_neg hjk] at hy
    by_cases e1 : (j - 1) / 2 = i
    · rw [if_pos e1] at hy
      simp only [Option.some.injEq] at hy
      subst hy
      rw [if_neg (by omega)] at hx
      by_cases e2 : j = k
      · rw [if_pos e2] at hx
        simp only [Option.some.injEq] at hx
        subst hx
        omega
      · rw [if_neg e2] at hx
        exact hmin j x hj e1 hx
    · rw [if_neg e1] at hy
      by_cases e3 : j = i
      · subst e3
        rw [if_pos rfl] at hx
        simp only [Option.some.injEq] at hx
        subst hx
        exact h.2 hj k _ y (by omega) hpk hc hy
      · rw [if_neg e3] at hx
        by_cases e4 : j = k
        · omega
        · rw [if_neg e4] at hx
          exact h.1 j x y hj e1 hx hy
  · rw [swp_at ha hc hne] at hx hy
    rw [hpk, if_pos rfl] at hy
    simp only [Option.some.injEq] at hy
    subst hy
    rw [if_neg (by omega), if_neg (by omega)] at hx
    exact h.1 j x _ hj (by omega) hx (by rw [he]; exact hc)
end

theorem pop_start {α : Type} {us : List α} {m x : α} {n : Nat} (hn : us.length = n + 1) (hm : us[0]? = some m) (hx : us[n]? = some x) : (m :: (us.set 0 x).take n).Perm us := by
  rcases us with _ | ⟨m', rest⟩
  · simp at hn
  · simp at hm hn
    subst hm
    rcases n with _ | n
    · have : rest = [] := List.eq_nil_of_length_eq_zero hn
      subst this
      simp
    · simp only [List.set_cons_zero, List.take_succ_cons]
      refine List.Perm.cons _ ?_
      have hx' : rest[n]? = some x := by simpa using hx
      obtain ⟨hlt, rfl⟩ := List.getElem?_eq_some_iff.1 hx'
      have e : rest = rest.take n ++ [rest[n]] := by
        have h1 := (List.take_append_drop n rest).symm
        rw [List.drop_eq_getElem_cons hlt, List.drop_of_length_le (by omega)] at h1
        exact h1
      conv => rhs; rw [e]
      exact (List.perm_append_singleton _ _).symm

section
variable {α : Type} (key : α → Int)
theorem lesser_of {us : List α} {j : Nat} {b1 b2 c : α} {k : Nat} (h1 : us[2 * j + 1]? = some b1) (h2 : us[2 * j + 2]? = some b2) (hk : us[k]? = some c) (hk2 : k = 2 * j + 1 ∨ k = 2 * j + 2) (l1 : key c ≤ key b1) (l2 : key c ≤ key b2) : Lesser key us j k c := by
  refine ⟨hk, hk2, fun i y hi hp hy => ?_⟩
  rcases (by omega : i = 2 * j + 1 ∨ i = 2 * j + 2) with e | e
  · subst e; rw [h1] at hy; simp only [Option.some.injEq] at hy; subst hy; exact l1
  · subst e; rw [h2] at hy; simp only [Option.some.injEq] at hy; subst hy; exact l2

theorem lesser_right {us : List α} {j : Nat} {b1 b2 : α} (h1 : us[2 * j + 1]? = some b1) (h2 : us[2 * j + 2]? = some b2) (h : key b2 < key b1) : Lesser key us j (2 * j + 2) b2 := lesser_of key h1 h2 h2 (.inr rfl) (by omega) (by omega)
theorem lesser_left {us : List α} {j : Nat} {b1 b2 : α} (h1 : us[2 * j + 1]? = some b1) (h2 : us[2 * j + 2]? = some b2) (h : ¬ key b2 < key b1) : Lesser key us j (2 * j + 1) b1 := lesser_of key h1 h2 h1 (.inl rfl) (by omega) (by omega)
theorem lesser_only {us : List α} {j : Nat} {b1 : α} (h1 : us[2 * j + 1]? = some b1) (h : us.length ≤ 2 * j + 2) : Lesser key us j (2 * j + 1) b1 :=
  ⟨h1, .inl rfl, fun i y hi hp hy => by
    have hi' : i < us.length := (List.getElem?_eq_some_iff.1 hy).1
    obtain rfl : i = 2 * j + 1 := by omega
    rw [h1] at hy; simp only [Option.some.injEq] at hy; subst hy; omega⟩
end

end Go.Proofs.Ythgkhhgabpebmaa
