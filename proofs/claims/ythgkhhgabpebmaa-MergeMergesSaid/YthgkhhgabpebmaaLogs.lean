/- Several logs as they lie. -/
import Derived.Test.YthgkhhgabpebmaaSpec
import Derived.Test.YthgkhhgabpebmaaCopy
namespace Go.Proofs.Ythgkhhgabpebmaa
open Go.RowKit
set_option linter.unusedVariables false
set_option linter.unusedSimpArgs false

structure Logs (w : World) (a : Option Addr) (n : Nat) (ls : List Lg) : Prop where
  len : ls.length = n
  get : ∀ (j : Nat) (l : Lg), ls[j]? = some l → ∃ g off, a = some ⟨g, off, none⟩ ∧ w.cell? ⟨g, off + j, none⟩ = some (.slice l.a l.n l.c)
  recs : ∀ l ∈ ls, Recs w l.a l.n l.cs ∧ l.n ≤ l.c ∧ l.c ≤ 9223372036854775807
  nils : ∀ l ∈ ls, l.a = none → l.c = 0

theorem Logs.below {w wr : World} {a : Option Addr} {n : Nat} {ls : List Lg} (h : Logs w a n ls) (hb : Below w.heap.size w wr) : Logs wr a n ls :=
  ⟨h.len, fun j l hl => by
    obtain ⟨g, off, ha, hc⟩ := h.get j l hl
    exact ⟨g, off, ha, (hb.cell (World.block_lt_of_cell? _ _ hc)).trans hc⟩, fun l hl => ⟨(h.recs l hl).1.below hb, (h.recs l hl).2⟩, h.nils⟩

theorem Logs.at {w : World} {a : Option Addr} {n : Nat} {ls : List Lg} (h : Logs w a n ls) {j : Nat} (hj : j < n) : ∃ l, ls[j]? = some l := ⟨_, List.getElem?_eq_getElem (by rw [h.len]; exact hj)⟩

/-- So few that they are gone through. -/
structure Few (ls : List Lg) : Prop where
  logs : ls.length ≤ 1000
  recs : (ls.map Lg.cs).flatten.length ≤ 100000
  each : ∀ l ∈ ls, ∀ c ∈ l.cs, c.few

theorem Few.len {ls : List Lg} (h : Few ls) {l : Lg} (hl : l ∈ ls) : l.cs.length ≤ 100000 := by
  have := h.recs
  have h2 : l.cs.length ≤ (ls.map Lg.cs).flatten.length := by
    obtain ⟨i, hi, rfl⟩ := List.mem_iff_getElem.1 hl
    have : (ls.map Lg.cs) = (ls.map Lg.cs).take i ++ ls[i].cs :: (ls.map Lg.cs).drop (i + 1) := by
      have e := (List.take_append_drop i (ls.map Lg.cs)).symm
      rw [List.drop_eq_getElem_cons (by simpa using hi)] at e
      simpa using e
    rw [this]
    simp only [List.flatten_append, List.flatten_cons, List.length_append]
    omega
  omega

/-- The records behind the first. -/
theorem Recs.rest {w : World} {g off n : Nat} {c : RC} {r : List RC} (h : Recs w (some ⟨g, off, none⟩) (n + 1) (c :: r)) : Recs w (some ⟨g, off + 12, none⟩) n r :=
  ⟨by have := h.len; simpa using this, fun j d hd => by
    obtain ⟨g', off', x, e, hx, hr⟩ := h.get (j + 1) d (by simpa using hd)
    simp only [Option.some.injEq, Addr.mk.injEq, and_true] at e
    obtain ⟨rfl, rfl⟩ := e
    exact ⟨g, off + 12, x, rfl, by rwa [show off + 12 + j * 12 = off + (j + 1) * 12 by omega], hr⟩⟩

theorem heapish_ne {w : World} {hb b T : Nat} {vs : List Value} {cur : Array Value} (ht : Blk w hb 81 vs) (hc : w.heap[b]? = some (.cells cur T (0, 0))) (h1 : T ≠ 81) (h2 : T ≠ 25) : ¬ Heapish hb w b := by
  rintro (rfl | ⟨cur', hc'⟩)
  · unfold Blk at ht
    rw [hc] at ht
    simp at ht
    exact h1 ht.2
  · rw [hc] at hc'
    simp at hc'
    exact h2 hc'.2

/-- A list that was told: records of its own. -/
structure Told (w : World) (base : Nat) (a : Option Addr) (n c : Nat) (cs : List RC) (xs : List Rq) : Prop where
  row : w.ownsRow base 59 12 (.slice a n c) n (allcells xs)
  each : Each (Holds w base) xs cs
  len : xs.length = n

theorem Told.nil (w : World) (base : Nat) : Told w base none 0 0 [] [] := ⟨World.ownsRow_nil _ _ _ _, .nil _, rfl⟩

theorem Told.recs {w : World} {base : Nat} {a : Option Addr} {n c : Nat} {cs : List RC} {xs : List Rq} (h : Told w base a n c cs xs) : Recs w a n cs :=
  owns_recs h.row (h.each.mono fun x c _ hx => hx.reads)

theorem Told.keep {S : Nat → Prop} {w w' : World} {base : Nat} {a : Option Addr} {n c : Nat} {cs : List RC} {xs : List Rq} (h : Told w base a n c cs xs) (k : Keep S w w')
    (hS : ∀ b cur T, w.heap[b]? = some (.cells cur T (0, 0)) → (T = 59 ∨ T = 63 ∨ T = 65) → base ≤ b → ¬ S b) : Told w' base a n c cs xs := by
  refine ⟨owns_keep h.row k (fun j hj => ?_), h.each.mono (fun x c _ hx => hx.keep k (fun b hb => ?_)), h.len⟩
  · obtain ⟨cur, hc⟩ := owns_cells h.row hj
    exact hS j cur 59 hc (.inl rfl) (h.row.lt j hj).1
  · obtain ⟨cur, T, hc, hT⟩ := hx.kind hb
    exact hS b cur T hc (.inr hT) (hx.lt hb).1

theorem Told.none {w w' : World} {base : Nat} {a : Option Addr} {n c : Nat} {cs : List RC} {xs : List Rq} (h : Told w base a n c cs xs) (k : Keep (fun _ => False) w w') : Told w' base a n c cs xs := h.keep k (fun _ _ _ _ _ _ h => h)

/-- One more told: behind the copy and the append. -/
theorem Told.snoc {w w' : World} {base : Nat} {a a' : Option Addr} {n c c' : Nat} {cs : List RC} {xs : List Rq} {y : Rq} {d : RC} (h : Told w base a n c cs xs) (hy : Holds w base y d)
    (k : Keep (fun j => (Value.slice a n c).ownBlock = some j) w w') (hr : w'.ownsRow base 59 12 (.slice a' (n + 1) c') (n + 1) (allcells (xs ++ [y]))) : Told w' base a' (n + 1) c' (cs ++ [d]) (xs ++ [y]) := by
  have keepH : ∀ (x : Rq) (e : RC), Holds w base x e → Holds w' base x e := fun x e hx => hx.keep k (fun b hb e => by
    obtain ⟨cur, hc⟩ := owns_cells h.row e
    exact hx.apart hb hc (by decide) (by decide) rfl)
  exact ⟨hr, (h.each.mono fun x c _ hx => keepH x c hx).snoc (keepH y d hy), by simp [h.len]⟩

theorem below_keep {w w' : World} (h : Below w.heap.size w w') : Keep (fun _ => False) w w' := ⟨h.os, h.tape, h.output, h.size, fun k hk _ => h.block k hk⟩

/-- What 'Merge' leaves. -/
def MergePost (w : World) (ls : List Lg) (e : Ending) (w' : World) : Prop :=
  ∃ r a n c cs xs, e = .returned (.tuple #[.slice a n c, .int .i64 r]) ∧ Merged (ls.map Lg.cs) r cs ∧ Told w' w.heap.size a n c cs xs ∧ Below w.heap.size w w'

end Go.Proofs.Ythgkhhgabpebmaa
