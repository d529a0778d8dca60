/- 'lives' of the laws over merge. -/
import Derived.Test.YthgkhhgabpebmaaMerge
namespace Go.Proofs.Ythgkhhgabpebmaa
open Go.RowKit
set_option linter.unusedVariables false
set_option linter.unusedSimpArgs false

def bare (n : Int) : RC := ⟨0, n, 0, 0, 0, 0, 0, ⟨#[]⟩, ⟨#[]⟩, ⟨#[]⟩, [], []⟩
def bareq (n : Int) : Rq := ⟨0, n, 0, 0, 0, 0, 0, ⟨#[]⟩, ⟨#[]⟩, ⟨#[]⟩, none, 0, 0, none, 0, 0⟩

theorem bare_reads (w : World) (n : Int) : Reads w (bareq n) (bare n) := ⟨⟨rfl, rfl, rfl, rfl, rfl, rfl, rfl, rfl, rfl, rfl⟩, .inl ⟨rfl, rfl, rfl, rfl⟩, .inl ⟨rfl, rfl, rfl, rfl⟩⟩
theorem bare_few (n : Int) : (bare n).few := ⟨by simp [bare], by simp [bare]⟩

theorem bare_pair {w : World} {g : Nat} {n m : Int} (h : Blk w g 59 ((bareq n).cells ++ (bareq m).cells)) : Recs w (some ⟨g, 0, none⟩) 2 [bare n, bare m] :=
  ⟨rfl, fun j c hc => by
    have hj : j < 2 := (List.getElem?_eq_some_iff.1 hc).1
    rcases (by omega : j = 0 ∨ j = 1) with rfl | rfl
    · simp at hc; subst hc
      exact ⟨g, 0, bareq n, rfl, .of_at (fun i u hu => by
        have : i < 12 := (List.getElem?_eq_some_iff.1 hu).1
        have := h.at (i := i) (v := u) (by rw [List.getElem?_append_left (by simp [Rq.cells]; omega)]; exact hu)
        simpa using this), bare_reads w n⟩
    · simp at hc; subst hc
      exact ⟨g, 0, bareq m, rfl, .of_at (fun i u hu => by
        have : i < 12 := (List.getElem?_eq_some_iff.1 hu).1
        have := h.at (i := 12 + i) (v := u) (by rw [List.getElem?_append_right (by simp [Rq.cells])]; simpa [Rq.cells] using hu)
        simpa using this), bare_reads w m⟩⟩

def lv (s : Nat) : List Lg := [⟨some ⟨s, 0, none⟩, 2, 2, [bare 16, bare 48]⟩, ⟨some ⟨s + 1, 0, none⟩, 2, 2, [bare 17, bare 33]⟩]

theorem rising_two {n m : Int} (h : n < m) : Rising [bare n, bare m] := rising_of (by simp [bare]; omega)

theorem lv_merged (s : Nat) : Merged ((lv s).map Lg.cs) 0 [bare 16, bare 17, bare 33, bare 48] := by
  refine .inr ⟨fun l hl => ?_, .inl ⟨rfl, ?_, rising_of (by simp [bare])⟩⟩
  · simp [lv] at hl
    rcases hl with rfl | rfl
    · exact rising_two (by omega)
    · exact rising_two (by omega)
  · show List.Perm _ [bare 16, bare 48, bare 17, bare 33]
    refine List.Perm.cons _ ?_
    have h1 : [bare 17, bare 33, bare 48].Perm ([bare 48] ++ [bare 17, bare 33]) := List.perm_append_comm (l₁ := [bare 17, bare 33]) (l₂ := [bare 48])
    exact h1

theorem lv_logs {w : World} {s : Nat} (h1 : Blk w s 59 ((bareq 16).cells ++ (bareq 48).cells)) (h2 : Blk w (s + 1) 59 ((bareq 17).cells ++ (bareq 33).cells)) (h3 : Blk w (s + 2) 25 [.slice (some ⟨s, 0, none⟩) 2 2, .slice (some ⟨s + 1, 0, none⟩) 2 2]) :
    Logs w (some ⟨s + 2, 0, none⟩) 2 (lv s) :=
  ⟨rfl, fun j l hl => by
    have hj : j < 2 := (List.getElem?_eq_some_iff.1 hl).1
    rcases (by omega : j = 0 ∨ j = 1) with rfl | rfl
    · simp [lv] at hl; subst hl; exact ⟨s + 2, 0, rfl, h3.at rfl⟩
    · simp [lv] at hl; subst hl; exact ⟨s + 2, 0, rfl, h3.at (i := 1) rfl⟩, fun l hl => by
    simp [lv] at hl
    rcases hl with rfl | rfl
    · exact ⟨bare_pair h1, Nat.le_refl _, by simp⟩
    · exact ⟨bare_pair h2, Nat.le_refl _, by simp⟩, fun l hl => by
    simp [lv] at hl
    rcases hl with rfl | rfl <;> simp⟩

theorem lv_few (s : Nat) : Few (lv s) := ⟨by simp [lv], by simp [lv], fun l hl c hc => by
  simp [lv] at hl
  rcases hl with rfl | rfl <;> simp at hc <;> rcases hc with rfl | rfl <;> exact bare_few _⟩

set_option maxHeartbeats 2000000 in
set_option maxRecDepth 100000 in
theorem lives_yes (w : World) : Calls Try.prog 9 #[] w fun e w' => e = .returned (.bool true) ∧ Below w.heap.size w w' := by
  have LG : Hid (Logs (((w.alloc (.cells #[.int .i64 0, .int .u64 16, .int .i64 0, .int .u64 0, .int .u64 0, .int .i64 0, .int .i64 0, .string ⟨#[]⟩, .string ⟨#[]⟩, .string ⟨#[]⟩, .slice none 0 0, .slice none 0 0, .int .i64 0, .int .u64 48, .int .i64 0, .int .u64 0, .int .u64 0, .int .i64 0, .int .i64 0, .string ⟨#[]⟩, .string ⟨#[]⟩, .string ⟨#[]⟩, .slice none 0 0, .slice none 0 0] 59)).alloc (.cells #[.int .i64 0, .int .u64 17, .int .i64 0, .int .u64 0, .int .u64 0, .int .i64 0, .int .i64 0, .string ⟨#[]⟩, .string ⟨#[]⟩, .string ⟨#[]⟩, .slice none 0 0, .slice none 0 0, .int .i64 0, .int .u64 33, .int .i64 0, .int .u64 0, .int .u64 0, .int .i64 0, .int .i64 0, .string ⟨#[]⟩, .string ⟨#[]⟩, .string ⟨#[]⟩, .slice none 0 0, .slice none 0 0] 59)).alloc (.cells #[.slice (some ⟨w.heap.size, 0, none⟩) 2 2, .slice (some ⟨w.heap.size + 1, 0, none⟩) 2 2] 25)) (some ⟨w.heap.size + 2, 0, none⟩) 2 (lv w.heap.size)) := by
    have h := new_two w 59 59 ((bareq 16).cells ++ (bareq 48).cells) ((bareq 17).cells ++ (bareq 33).cells)
    have h3 := new_one ((w.alloc (.cells ((bareq 16).cells ++ (bareq 48).cells).toArray 59)).alloc (.cells ((bareq 17).cells ++ (bareq 33).cells).toArray 59)) 25 [.slice (some ⟨w.heap.size, 0, none⟩) 2 2, .slice (some ⟨w.heap.size + 1, 0, none⟩) 2 2]
    have s3 : ((w.alloc (.cells ((bareq 16).cells ++ (bareq 48).cells).toArray 59)).alloc (.cells ((bareq 17).cells ++ (bareq 33).cells).toArray 59)).heap.size = w.heap.size + 2 := by simp
    have h4 := h3.1
    rw [s3] at h4
    exact lv_logs (h.1.keep h3.2 (fun h => h)) (h.2.1.keep h3.2 (fun h => h)) h4
  have K0 : Hid (Keep (fun _ => False) w (((w.alloc (.cells #[.int .i64 0, .int .u64 16, .int .i64 0, .int .u64 0, .int .u64 0, .int .i64 0, .int .i64 0, .string ⟨#[]⟩, .string ⟨#[]⟩, .string ⟨#[]⟩, .slice none 0 0, .slice none 0 0, .int .i64 0, .int .u64 48, .int .i64 0, .int .u64 0, .int .u64 0, .int .i64 0, .int .i64 0, .string ⟨#[]⟩, .string ⟨#[]⟩, .string ⟨#[]⟩, .slice none 0 0, .slice none 0 0] 59)).alloc (.cells #[.int .i64 0, .int .u64 17, .int .i64 0, .int .u64 0, .int .u64 0, .int .i64 0, .int .i64 0, .string ⟨#[]⟩, .string ⟨#[]⟩, .string ⟨#[]⟩, .slice none 0 0, .slice none 0 0, .int .i64 0, .int .u64 33, .int .i64 0, .int .u64 0, .int .u64 0, .int .i64 0, .int .i64 0, .string ⟨#[]⟩, .string ⟨#[]⟩, .string ⟨#[]⟩, .slice none 0 0, .slice none 0 0] 59)).alloc (.cells #[.slice (some ⟨w.heap.size, 0, none⟩) 2 2, .slice (some ⟨w.heap.size + 1, 0, none⟩) 2 2] 25))) := (((Keep.refl _ _).alloc _).alloc _).alloc _
  go_enter Try.func9, Try.ntmps9
  go_wp2_with fail
  refine (merge_any _ 2 2 (lv w.heap.size) _ LG.out (lv_few _)).mono ?_
  rintro e w4 ⟨r, a, n, c, cs, xs, rfl, hM, hT, hB⟩
  obtain ⟨rfl, rfl⟩ := hM.unique (lv_merged _) (List.Perm.refl _)
  have hn : n = 4 := hT.recs.len.symm
  subst hn
  obtain ⟨g, off, x0, rfl, hx0, hr0⟩ := hT.recs.get 0 _ rfl
  obtain ⟨g1, off1, x1, e1, hx1, hr1⟩ := hT.recs.get 1 _ rfl
  obtain ⟨g2, off2, x2, e2, hx2, hr2⟩ := hT.recs.get 2 _ rfl
  obtain ⟨g3, off3, x3, e3, hx3, hr3⟩ := hT.recs.get 3 _ rfl
  simp only [Option.some.injEq, Addr.mk.injEq, and_true] at e1 e2 e3
  obtain ⟨rfl, rfl⟩ := e1
  obtain ⟨rfl, rfl⟩ := e2
  obtain ⟨rfl, rfl⟩ := e3
  have a0 := hx0.c1
  have a1 := hx1.c1
  have a2 := hx2.c1
  have a3 := hx3.c1
  rw [hr0.plain.lsn] at a0
  rw [hr1.plain.lsn] at a1
  rw [hr2.plain.lsn] at a2
  rw [hr3.plain.lsn] at a3
  simp only [bare, Nat.zero_mul, Nat.add_zero, Nat.one_mul] at a0 a1 a2 a3
  have KE : Hid (Below w.heap.size w w4) := keep0_below (Below.refl _ _) (K0.out.none_trans (below_keep hB)) (Nat.le_refl _)
  clear hM hT hB hx0 hx1 hx2 hx3 hr0 hr1 hr2 hr3 LG K0
  go_wp2_with fail
  go_ret
  exact ⟨rfl, KE.out⟩

end Go.Proofs.Ythgkhhgabpebmaa
