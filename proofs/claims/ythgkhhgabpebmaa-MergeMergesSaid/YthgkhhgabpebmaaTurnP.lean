/- The plain law of 'MergeTurned': what several logs are as one doesn't hang on their order, nor on what was put together ahead. -/
import Derived.Test.YthgkhhgabpebmaaFrom
import Derived.Test.YthgkhhgabpebmaaSmall
import Derived.Test.YthgkhhgabpebmaaSame
namespace Go.Proofs.Ythgkhhgabpebmaa
open Go.RowKit
set_option linter.unusedVariables false
set_option linter.unusedSimpArgs false

theorem below_on {w0 w w' : World} (h : Below w0.heap.size w0 w) (k : Below w.heap.size w w') : Below w0.heap.size w0 w' := keep0_below h (below_keep k) h.size

theorem sub_flat {l m : List (List RC)} (h : l.Sublist m) : l.flatten.Sublist m.flatten := by
  induction h with
  | slnil => exact .slnil
  | cons a h ih => rw [List.flatten_cons]; exact ih.trans (List.sublist_append_right _ _)
  | cons_cons a h ih => rw [List.flatten_cons, List.flatten_cons]; exact (List.append_sublist_append_left _).2 ih

theorem Few.perm {ls ms : List Lg} (h : Few ls) (p : ls.Perm ms) : Few ms :=
  ⟨by rw [← p.length_eq]; exact h.logs, by rw [← ((p.map Lg.cs).flatten).length_eq]; exact h.recs, fun l hl => h.each l (p.symm.subset hl)⟩

theorem Few.sub {ls ms : List Lg} (h : Few ls) (p : ms.Sublist ls) : Few ms :=
  ⟨Nat.le_trans p.length_le h.logs, Nat.le_trans (sub_flat (p.map Lg.cs)).length_le h.recs, fun l hl => h.each l (p.subset hl)⟩

/-- A row of logs that is one's own. -/
theorem row_logs {w : World} {base n c : Nat} {a : Option Addr} {ls : List Lg} (h : w.ownsRow base 25 1 (.slice a n c) n (ls.map Lg.val)) (hr : ∀ l ∈ ls, Recs w l.a l.n l.cs ∧ l.n ≤ l.c ∧ l.c ≤ 9223372036854775807) (hz : ∀ l ∈ ls, l.a = none → l.c = 0) : Logs w a n ls := by
  have hl := h.1
  simp only [List.length_map, Nat.mul_one] at hl
  refine ⟨hl, fun j l hj => ?_, hr, hz⟩
  have hs : Src w a n c 1 (ls.map Lg.val) := owns_src h (fun u hu => by
    obtain ⟨l, _, rfl⟩ := List.mem_map.1 hu
    rfl)
  obtain ⟨g, off, ha, hc⟩ := hs.plain (by have := (List.getElem?_eq_some_iff.1 hj).1; omega) (by omega)
  exact ⟨g, off, ha, hc j l.val (by rw [List.getElem?_map, hj]; rfl)⟩

theorem Logs.take {w : World} {a : Option Addr} {n : Nat} {ls : List Lg} (h : Logs w a n ls) {k : Nat} (hk : k ≤ n) : Logs w a k (ls.take k) :=
  ⟨by rw [List.length_take, h.len]; omega, fun j l hl => h.get j l (by
    have := (List.getElem?_eq_some_iff.1 hl).1
    rw [List.length_take] at this
    rwa [List.getElem?_take_of_lt (by omega)] at hl), fun l hl => h.recs l (List.mem_of_mem_take hl), fun l hl => h.nils l (List.mem_of_mem_take hl)⟩

theorem Logs.src_drop {w : World} {g off n c : Nat} {ls : List Lg} (h : Logs w (some ⟨g, off, none⟩) n ls) (h2 : 2 ≤ n) : Src w (some ⟨g, off + 2, none⟩) (n - 2) c 1 ((ls.drop 2).map Lg.val) := by
  refine .inr ⟨_, rfl, by simp [h.len], fun j u hu => ?_, fun u hu => ?_⟩
  · rw [List.getElem?_map] at hu
    obtain ⟨l, hl, rfl⟩ := Option.map_eq_some_iff.1 hu
    rw [List.getElem?_drop] at hl
    obtain ⟨g', off', e, hc⟩ := h.get (2 + j) l hl
    simp only [Option.some.injEq, Addr.mk.injEq, and_true] at e
    obtain ⟨rfl, rfl⟩ := e
    rw [Go.WideShapes.add_plain, Nat.add_assoc]
    exact hc
  · obtain ⟨l, _, rfl⟩ := List.mem_map.1 hu
    rfl

theorem Logs.src_empty {w : World} {g off n c : Nat} {ls : List Lg} (h : Logs w (some ⟨g, off, none⟩) n ls) (h2 : n = 2) (ad : Addr) : Src w (some ad) (n - 2) c 1 ((ls.drop 2).map Lg.val) := by
  have e : ls.drop 2 = [] := by rw [List.drop_eq_nil_iff, h.len]; omega
  rw [e]
  exact .inr ⟨_, rfl, by simp [h2], fun j u hu => by simp at hu, fun u hu => by simp at hu⟩

theorem Merged.zero {ls : List (List RC)} {X : List RC} (h : Merged ls 0 X) : (∀ l ∈ ls, Rising l) ∧ X.Perm ls.flatten ∧ Rising X := by
  rcases h with ⟨h0, _⟩ | ⟨h1, ⟨_, h2, h3⟩ | ⟨h0, _⟩⟩
  · simp at h0
  · exact ⟨h1, h2, h3⟩
  · simp at h0

theorem Merged.err {ls : List (List RC)} {r : Int} {X : List RC} (h : Merged ls r X) (hr : r ≠ 0) : X = [] := by
  rcases h with ⟨_, h0, _⟩ | ⟨h1, ⟨h0, _⟩ | ⟨_, h0, _⟩⟩
  · exact h0
  · exact absurd h0 hr
  · exact h0

theorem Merged.ok {ms : List (List RC)} {r : Int} {Z : List RC} (k : Merged ms r Z) (hm : ∀ l ∈ ms, Rising l) (hn : (ms.flatten.map RC.lsn).Nodup) : r = 0 ∧ Z.Perm ms.flatten ∧ Rising Z := by
  rcases k with ⟨_, _, l, hl, h0⟩ | ⟨h1, ⟨h0, h2, h3⟩ | ⟨_, _, h0⟩⟩
  · exact absurd (hm l hl) h0
  · exact ⟨h0, h2, h3⟩
  · exact absurd hn h0

theorem Merged.nodup {ls : List (List RC)} {X : List RC} (h : Merged ls 0 X) : (ls.flatten.map RC.lsn).Nodup :=
  ((h.zero.2.1.map RC.lsn).nodup_iff).1 h.zero.2.2.nodup

theorem turned_first {ls : List (List RC)} {X Z : List RC} {r : Int} (h : Merged ls 0 X) (hz : Merged (ls.take 2) r Z) : r = 0 ∧ Z.Perm (ls.take 2).flatten ∧ Rising Z :=
  hz.ok (fun l hl => h.zero.1 l (List.mem_of_mem_take hl)) (h.nodup.sublist ((sub_flat (List.take_sublist 2 ls)).map RC.lsn))

theorem turned_perm {ls : List (List RC)} {Z : List RC} (hz : Z.Perm (ls.take 2).flatten) : (Z :: ls.drop 2).flatten.Perm ls.flatten := by
  have h1 : (Z :: ls.drop 2).flatten.Perm ((ls.take 2).flatten ++ (ls.drop 2).flatten) := by
    rw [List.flatten_cons]
    exact hz.append_right _
  rwa [← List.flatten_append, List.take_append_drop] at h1

theorem turned_second {ls : List (List RC)} {X Z U : List RC} {r : Int} (h : Merged ls 0 X) (hz : Z.Perm (ls.take 2).flatten) (hr : Rising Z) (hu : Merged (Z :: ls.drop 2) r U) : r = 0 ∧ U = X := by
  have hp := turned_perm hz
  obtain ⟨h0, h1, h2⟩ := hu.ok (fun l hl => by
    rcases List.mem_cons.1 hl with rfl | hl
    · exact hr
    · exact h.zero.1 l (List.mem_of_mem_drop hl)) (((hp.map RC.lsn).nodup_iff).2 h.nodup)
  exact ⟨h0, rising_unique h2 h.zero.2.2 ((h1.trans hp).trans h.zero.2.1.symm)⟩

theorem Few.put {ls : List Lg} (h : Few ls) {z : Lg} (hz : z.cs.Perm ((ls.map Lg.cs).take 2).flatten) (h2 : 2 ≤ ls.length) : Few (z :: ls.drop 2) := by
  have hp := turned_perm hz
  refine ⟨?_, ?_, ?_⟩
  · have := h.logs
    simp only [List.length_cons, List.length_drop]
    omega
  · have e : ((z :: ls.drop 2).map Lg.cs).flatten = (z.cs :: (ls.map Lg.cs).drop 2).flatten := by simp
    rw [e, hp.length_eq]
    exact h.recs
  · intro l hl c hc
    rcases List.mem_cons.1 hl with rfl | hl
    · obtain ⟨l', hl', hc'⟩ := List.mem_flatten.1 (hz.subset hc)
      obtain ⟨m, hm, rfl⟩ := List.mem_map.1 (List.mem_of_mem_take hl')
      exact h.each m hm c hc'
    · exact h.each l (List.mem_of_mem_drop hl) c hc

/-- How many records there are. -/
def lens (ls : List Lg) : Nat := (ls.map Lg.cs).flatten.length
theorem lens_cons (l : Lg) (ls : List Lg) : lens (l :: ls) = l.cs.length + lens ls := by simp [lens]
theorem lens_sub {ls ms : List Lg} (p : ms.Sublist ls) : lens ms ≤ lens ls := (sub_flat (p.map Lg.cs)).length_le

theorem drop_at {ls : List Lg} {p : Nat} {l : Lg} (h : ls[p]? = some l) : ls.drop p = l :: ls.drop (p + 1) := by
  obtain ⟨h1, rfl⟩ := List.getElem?_eq_some_iff.1 h
  exact List.drop_eq_getElem_cons h1

end Go.Proofs.Ythgkhhgabpebmaa
