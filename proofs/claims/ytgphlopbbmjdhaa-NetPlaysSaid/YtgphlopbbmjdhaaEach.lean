/- Lists of messages beside lists of what they say. -/
import Derived.Test.YtgphlopbbmjdhaaDeep
namespace Go.Proofs.Ytgphlopbbmjdhaa
open Go.RowKit Go.Conc
set_option linter.unusedVariables false
set_option linter.unusedSimpArgs false

structure Each (R : Qm → Cont → Prop) (xs : List Qm) (cs : List Cont) : Prop where
  len : xs.length = cs.length
  get : ∀ (j : Nat) (x : Qm) (c : Cont), xs[j]? = some x → cs[j]? = some c → R x c

theorem Each.nil (R : Qm → Cont → Prop) : Each R [] [] := ⟨rfl, fun j x c h => by simp at h⟩

theorem Each.snoc {R : Qm → Cont → Prop} {xs : List Qm} {cs : List Cont} {x : Qm} {c : Cont} (h : Each R xs cs) (hx : R x c) : Each R (xs ++ [x]) (cs ++ [c]) := by
  refine ⟨by simp [h.len], fun j y d hy hd => ?_⟩
  rw [List.getElem?_append] at hy hd
  rw [h.len] at hy
  split at hy
  · rename_i hj
    rw [if_pos hj] at hd
    exact h.get j y d hy hd
  · rename_i hj
    rw [if_neg hj] at hd
    by_cases e : j - cs.length = 0
    · rw [e] at hy hd
      simp at hy hd
      subst hy hd
      exact hx
    · obtain ⟨n, hn⟩ : ∃ n, j - cs.length = n + 1 := ⟨j - cs.length - 1, by omega⟩
      rw [hn] at hy
      simp at hy

theorem Each.mono {R R' : Qm → Cont → Prop} {xs : List Qm} {cs : List Cont} (h : Each R xs cs) (hR : ∀ x c, x ∈ xs → R x c → R' x c) : Each R' xs cs :=
  ⟨h.len, fun j x c hx hc => hR x c (List.mem_of_getElem? hx) (h.get j x c hx hc)⟩

theorem Each.tail {R : Qm → Cont → Prop} {xs : List Qm} {cs : List Cont} {x : Qm} {c : Cont} (h : Each R (x :: xs) (c :: cs)) : Each R xs cs :=
  ⟨by simpa using h.len, fun j y d hy hd => h.get (j + 1) y d (by simpa using hy) (by simpa using hd)⟩

theorem Each.head {R : Qm → Cont → Prop} {xs : List Qm} {cs : List Cont} {x : Qm} {c : Cont} (h : Each R (x :: xs) (c :: cs)) : R x c := h.get 0 x c rfl rfl

/-- Of one that stands there, what it says stands beside it. -/
theorem Each.other {R : Qm → Cont → Prop} {xs : List Qm} {cs : List Cont} (h : Each R xs cs) {j : Nat} {x : Qm} (hx : xs[j]? = some x) : ∃ c, cs[j]? = some c ∧ R x c := by
  have hj : j < xs.length := (List.getElem?_eq_some_iff.1 hx).1
  have hj' : j < cs.length := by rw [← h.len]; exact hj
  exact ⟨cs[j], List.getElem?_eq_getElem hj', h.get j x _ hx (List.getElem?_eq_getElem hj')⟩

theorem Each.mem {R : Qm → Cont → Prop} {xs : List Qm} {cs : List Cont} (h : Each R xs cs) {x : Qm} (hx : x ∈ xs) : ∃ c, R x c := by
  obtain ⟨j, hj, rfl⟩ := List.mem_iff_getElem.1 hx
  obtain ⟨c, _, hr⟩ := h.other (List.getElem?_eq_getElem hj)
  exact ⟨c, hr⟩

/-- A message's cells; those of a list of messages. -/
def Qm.cells (x : Qm) : List Value := [.int .i64 x.kind, .int .i64 x.txn, .int .i64 x.page, .int .i64 x.dst, .bool x.fast, .int .u64 x.lsn, .slice x.wa x.wl x.wc, .slice x.pa x.pl x.pc, .string x.body]
def allcells (xs : List Qm) : List Value := xs.flatMap Qm.cells

theorem allcells_snoc (xs : List Qm) (x : Qm) : allcells (xs ++ [x]) = allcells xs ++ x.cells := by simp [allcells]
theorem cells_one (x : Qm) : ∀ u ∈ x.cells, u.oneCell' = true := by
  intro u hu
  simp [Qm.cells] at hu
  rcases hu with rfl | rfl | rfl | rfl | rfl | rfl | rfl | rfl | rfl <;> rfl

theorem allcells_at : ∀ (xs : List Qm) (j : Nat) (x : Qm), xs[j]? = some x → ∀ i u, x.cells[i]? = some u → (allcells xs)[j * 9 + i]? = some u
  | y :: xs, 0, x, h, i, u, hu => by
    simp at h; subst h
    have hi : i < y.cells.length := (List.getElem?_eq_some_iff.1 hu).1
    simp only [allcells, List.flatMap_cons, Nat.zero_mul, Nat.zero_add]
    rw [List.getElem?_append_left hi]; exact hu
  | y :: xs, j + 1, x, h, i, u, hu => by
    have := allcells_at xs j x (by simpa using h) i u hu
    simp only [allcells, List.flatMap_cons] at this ⊢
    rw [List.getElem?_append_right (by simp [Qm.cells]; omega)]
    rw [show (j + 1) * 9 + i - y.cells.length = j * 9 + i by simp [Qm.cells]; omega]
    exact this

/-- Where a message's cells lie. -/
structure MsgCells (w : World) (b o : Nat) (x : Qm) : Prop where
  c0 : w.cell? ⟨b, o, none⟩ = some (.int .i64 x.kind)
  c1 : w.cell? ⟨b, o + 1, none⟩ = some (.int .i64 x.txn)
  c2 : w.cell? ⟨b, o + 2, none⟩ = some (.int .i64 x.page)
  c3 : w.cell? ⟨b, o + 3, none⟩ = some (.int .i64 x.dst)
  c4 : w.cell? ⟨b, o + 4, none⟩ = some (.bool x.fast)
  c5 : w.cell? ⟨b, o + 5, none⟩ = some (.int .u64 x.lsn)
  c6 : w.cell? ⟨b, o + 6, none⟩ = some (.slice x.wa x.wl x.wc)
  c7 : w.cell? ⟨b, o + 7, none⟩ = some (.slice x.pa x.pl x.pc)
  c8 : w.cell? ⟨b, o + 8, none⟩ = some (.string x.body)

theorem MsgCells.of_at {w : World} {b o : Nat} {x : Qm} (h : ∀ i u, x.cells[i]? = some u → w.cell? ⟨b, o + i, none⟩ = some u) : MsgCells w b o x :=
  ⟨h 0 _ rfl, h 1 _ rfl, h 2 _ rfl, h 3 _ rfl, h 4 _ rfl, h 5 _ rfl, h 6 _ rfl, h 7 _ rfl, h 8 _ rfl⟩

theorem MsgCells.keep {S : Nat → Prop} {w w' : World} {b o : Nat} {x : Qm} (h : MsgCells w b o x) (k : Keep S w w') (hS : ¬ S b) : MsgCells w' b o x :=
  ⟨k.got h.c0 hS, k.got h.c1 hS, k.got h.c2 hS, k.got h.c3 hS, k.got h.c4 hS, k.got h.c5 hS, k.got h.c6 hS, k.got h.c7 hS, k.got h.c8 hS⟩

/-- A slice of messages that is owned, read at one of them. -/
theorem owns_msg {w : World} {base n : Nat} {a : Option Addr} {cap : Nat} {xs : List Qm} (h : w.ownsRow base 33 9 (.slice a n cap) n (allcells xs)) {j : Nat} {x : Qm} (hx : xs[j]? = some x) :
    ∃ g, a = some ⟨g, 0, none⟩ ∧ MsgCells w g (0 + j * 9) x := by
  rcases h.2 with ⟨hv, hn⟩ | ⟨g, cap', cur, hv, _⟩
  · have hl := h.1
    subst hn
    have hj := (List.getElem?_eq_some_iff.1 hx).1
    have := (List.getElem?_eq_some_iff.1 (allcells_at xs j x hx 0 _ rfl)).1
    omega
  · simp only [Value.slice.injEq, true_and] at hv
    obtain ⟨rfl, rfl⟩ := hv
    refine ⟨g, rfl, .of_at fun i u hu => ?_⟩
    have := h.cells rfl _ _ (allcells_at xs j x hx i u hu)
    rw [Go.WideShapes.add_plain] at this
    rwa [Nat.add_assoc]

/-- A block of cells made just now is a slice to read. -/
theorem src_new (w : World) (T : TypeId) (vs : List Value) (h1 : ∀ u ∈ vs, u.oneCell' = true) : Src (w.alloc (.cells vs.toArray T (0, 0))) (some ⟨w.heap.size, 0, none⟩) 1 1 vs.length vs :=
  .inr ⟨_, rfl, by simp, fun j u hu => by rw [Go.WideShapes.add_plain, Nat.zero_add]; exact (Blk.new w T vs).at hu, h1⟩

theorem info33' : (Try.prog.info? 33).map (fun i => (i.zero, i.size, i.bytes)) = some (some (.agg #[.int .i64 0, .int .i64 0, .int .i64 0, .int .i64 0, .bool false, .int .u64 0, .slice none 0 0, .slice none 0 0, .string ByteArray.empty]), 9, 112) := by kernel_rfl

end Go.Proofs.Ytgphlopbbmjdhaa
