/- The list of steps that the laws over nets take, as it lies in memory. -/
import Derived.Test.YtgphlopbbmjdhaaCut
import Derived.Test.YtgphlopbbmjdhaaKFull
namespace Go.Proofs.Ytgphlopbbmjdhaa
open Go.RowKit Go.Conc
set_option linter.unusedVariables false
set_option linter.unusedSimpArgs false

/-- A step: its kind, from where to where, how often, and its message. -/
structure OpV where
  kind : Int
  frm : Int
  dest : Int
  n : Int
  m : Qm

/-- Its thirteen cells. -/
structure OpCells (w : World) (b o : Nat) (v : OpV) : Prop where
  c0 : w.cell? ⟨b, o, none⟩ = some (.int .i64 v.kind)
  c1 : w.cell? ⟨b, o + 1, none⟩ = some (.int .i64 v.frm)
  c2 : w.cell? ⟨b, o + 2, none⟩ = some (.int .i64 v.dest)
  c3 : w.cell? ⟨b, o + 3, none⟩ = some (.int .i64 v.n)
  c4 : w.cell? ⟨b, o + 4, none⟩ = some (.int .i64 v.m.kind)
  c5 : w.cell? ⟨b, o + 5, none⟩ = some (.int .i64 v.m.txn)
  c6 : w.cell? ⟨b, o + 6, none⟩ = some (.int .i64 v.m.page)
  c7 : w.cell? ⟨b, o + 7, none⟩ = some (.int .i64 v.m.dst)
  c8 : w.cell? ⟨b, o + 8, none⟩ = some (.bool v.m.fast)
  c9 : w.cell? ⟨b, o + 9, none⟩ = some (.int .u64 v.m.lsn)
  c10 : w.cell? ⟨b, o + 10, none⟩ = some (.slice v.m.wa v.m.wl v.m.wc)
  c11 : w.cell? ⟨b, o + 11, none⟩ = some (.slice v.m.pa v.m.pl v.m.pc)
  c12 : w.cell? ⟨b, o + 12, none⟩ = some (.string v.m.body)

theorem OpCells.below {w wr : World} {b o : Nat} {v : OpV} (h : OpCells w b o v) (hb : Below w.heap.size w wr) : OpCells wr b o v :=
  have hlt : b < w.heap.size := World.block_lt_of_cell? _ _ h.c0
  ⟨(hb.cell (p := ⟨b, o, none⟩) hlt).trans h.c0, (hb.cell (p := ⟨b, o + 1, none⟩) hlt).trans h.c1, (hb.cell (p := ⟨b, o + 2, none⟩) hlt).trans h.c2, (hb.cell (p := ⟨b, o + 3, none⟩) hlt).trans h.c3,
   (hb.cell (p := ⟨b, o + 4, none⟩) hlt).trans h.c4, (hb.cell (p := ⟨b, o + 5, none⟩) hlt).trans h.c5, (hb.cell (p := ⟨b, o + 6, none⟩) hlt).trans h.c6, (hb.cell (p := ⟨b, o + 7, none⟩) hlt).trans h.c7,
   (hb.cell (p := ⟨b, o + 8, none⟩) hlt).trans h.c8, (hb.cell (p := ⟨b, o + 9, none⟩) hlt).trans h.c9, (hb.cell (p := ⟨b, o + 10, none⟩) hlt).trans h.c10, (hb.cell (p := ⟨b, o + 11, none⟩) hlt).trans h.c11,
   (hb.cell (p := ⟨b, o + 12, none⟩) hlt).trans h.c12⟩

def ArgOps (w : World) (a : Option Addr) (len : Nat) (ops : Nat → OpV) : Prop :=
  len = 0 ∨ ∃ b off, a = some ⟨b, off, none⟩ ∧ ∀ j, j < len → OpCells w b (off + j * 13) (ops j)

theorem ArgOps.at {w wr : World} {a : Option Addr} {len : Nat} {ops : Nat → OpV} (h : ArgOps w a len ops) (hb : Below w.heap.size w wr) {k : Nat} (hk : k < len) :
    ∃ b off, a = some ⟨b, off, none⟩ ∧ OpCells wr b (off + k * 13) (ops k) := by
  rcases h with h | ⟨b, off, rfl, hc⟩
  · omega
  · exact ⟨b, off, rfl, (hc k hk).below hb⟩

theorem rowIx_inj {n : Nat} {f t f' t' : Int} {i : Nat} (h : rowIx n f t = some i) (h' : rowIx n f' t' = some i) : f = f' ∧ t = t' := by
  unfold rowIx at h h'
  split at h
  · split at h'
    · simp at h h'; omega
    · split at h'
      · simp at h h'; omega
      · simp at h'
  · split at h
    · split at h'
      · simp at h h'; omega
      · split at h'
        · simp at h h'; omega
        · simp at h'
    · simp at h

/-- What stands in the row that is looked at: those sent and not yet taken, one behind the other. -/
def Mine (l : List Qm) (took sent : Nat) : Prop := took + l.length = sent ∧ ∀ (j : Nat) (x : Qm), l[j]? = some x → x.txn = (took : Int) + 1 + j ∧ x.body = ⟨#[111, 119, 110]⟩

theorem Mine.snoc {l : List Qm} {took sent : Nat} {x : Qm} (h : Mine l took sent) (hx : x.txn = (sent : Int) + 1) (hb : x.body = ⟨#[111, 119, 110]⟩) : Mine (l ++ [x]) took (sent + 1) := by
  refine ⟨by have := h.1; simp; omega, fun j y hy => ?_⟩
  rw [List.getElem?_append] at hy
  split at hy
  · exact h.2 j y hy
  · have hl := h.1
    rcases (by omega : j = l.length ∨ l.length < j) with e | e
    · subst e; simp at hy; subst hy; exact ⟨by rw [hx]; omega, hb⟩
    · rw [List.getElem?_eq_none (by simp; omega)] at hy; simp at hy

theorem Mine.tail {l : List Qm} {took sent : Nat} {x : Qm} (h : Mine (x :: l) took sent) : Mine l (took + 1) sent := by
  refine ⟨by have := h.1; simp at this; omega, fun j y hy => ?_⟩
  obtain ⟨h1, h2⟩ := h.2 (j + 1) y (by simpa using hy)
  exact ⟨by rw [h1]; omega, h2⟩

/-- What stands elsewhere bears another text. -/
def Others (q : Nat → List Qm) (i0 : Nat) : Prop := ∀ i, i ≠ i0 → ∀ x ∈ q i, x.body = ⟨#[111, 116, 104, 101, 114]⟩

theorem Others.put {q : Nat → List Qm} {i0 i : Nat} {l : List Qm} (h : Others q i0) (hl : i ≠ i0 → ∀ x ∈ l, x.body = ⟨#[111, 116, 104, 101, 114]⟩) : Others (put q i l) i0 := by
  intro j hj x hx
  by_cases e : j = i
  · subst e; rw [put_self] at hx; exact hl hj x hx
  · rw [put_other _ _ e] at hx; exact h j hj x hx

end Go.Proofs.Ytgphlopbbmjdhaa
