/- A heap of logs: made; which of two logs is less. -/
import Derived.Test.YthgkhhgabpebmaaRec
import Derived.Test.YthgkhhgabpebmaaPq
namespace Go.Proofs.Ythgkhhgabpebmaa
open Go.RowKit
set_option linter.unusedVariables false
set_option linter.unusedSimpArgs false

/-- A log: where it lies, and what it says. -/
structure Lg where
  a : Option Addr
  n : Nat
  c : Nat
  cs : List RC

def Lg.val (l : Lg) : Value := .slice l.a l.n l.c
def Lg.key (l : Lg) : Int := match l.cs with | [] => 0 | c :: _ => c.lsn

/-- A log that may be read, and has something. -/
structure Lg.Ok (w : World) (l : Lg) : Prop where
  recs : Recs w l.a l.n l.cs
  nonempty : l.n ≠ 0
  cap : l.n ≤ l.c
  top : l.c ≤ 9223372036854775807

theorem Lg.Ok.below {w wr : World} {l : Lg} (h : l.Ok w) (hb : Below w.heap.size w wr) : l.Ok wr := ⟨h.recs.below hb, h.nonempty, h.cap, h.top⟩

theorem Lg.Ok.head {w : World} {l : Lg} (h : l.Ok w) : ∃ g off x c r, l.a = some ⟨g, off, none⟩ ∧ l.cs = c :: r ∧ RecCells w g off x ∧ Reads w x c ∧ x.lsn = l.key := by
  have hl := h.recs.len
  rcases hc : l.cs with _ | ⟨c, r⟩
  · rw [hc] at hl; exact absurd hl.symm h.nonempty
  · obtain ⟨g, off, x, ha, hm, hr⟩ := h.recs.get 0 c (by rw [hc]; rfl)
    refine ⟨g, off, x, c, r, ha, rfl, by simpa using hm, hr, ?_⟩
    rw [hr.plain.lsn]; unfold Lg.key; rw [hc]

set_option maxHeartbeats 400000 in
theorem newHeap_any (w : World) :
    Calls Try.prog 29 #[.func (.func 30) #[] #[]] w fun e w' => e = .returned (.pointer (some ⟨w.heap.size, 0, none⟩)) ∧ w' = w.alloc (.cells #[.func (.func 30) #[] #[], .slice none 0 0] 81) := by
  go_enter Try.func29, Try.ntmps29
  go_wp2
  go_ret
  exact ⟨rfl, rfl⟩

set_option maxHeartbeats 400000 in
theorem less_any (l m : Lg) (w : World) (hl : l.Ok w) (hm : m.Ok w) :
    Calls Try.prog 30 #[.slice l.a l.n l.c, .slice m.a m.n m.c] w fun e w' => e = .returned (.bool (decide (l.key < m.key))) ∧ ∃ d, w' = w.drewN d := by
  obtain ⟨g, off, x, c, r, e1, _, h1, _, e2⟩ := hl.head
  obtain ⟨g', off', x', c', r', e3, _, h2, _, e4⟩ := hm.head
  rw [e1, e3, ← e2, ← e4]
  have a1 := h1.c1
  have a2 := h2.c1
  have p1 := hl.nonempty
  have p2 := hm.nonempty
  obtain ⟨la, ln, lc, lcs⟩ := l
  obtain ⟨ma, mn, mc, mcs⟩ := m
  simp only at p1 p2 ⊢
  have p1' : 0 < ln := by omega
  have p2' : 0 < mn := by omega
  clear e1 e2 e3 e4 h1 h2 hl hm p1 p2
  go_enter Try.func30, Try.ntmps30
  go_wp2_with fail
  go_quiet (fail)
  go_wp2_with fail
  go_ret
  exact ⟨rfl, _, rfl⟩

/-- A heap of logs as it lies. -/
structure HeapAt (w : World) (base hb : Nat) (ha : Option Addr) (n cap : Nat) (us : List Lg) : Prop where
  top : Blk w hb 81 [.func (.func 30) #[] #[], .slice ha n cap]
  row : w.ownsRow base 25 1 (.slice ha n cap) n (us.map Lg.val)
  len : us.length = n

theorem HeapAt.new (w : World) (base : Nat) : HeapAt (w.alloc (.cells #[.func (.func 30) #[] #[], .slice none 0 0] 81)) base w.heap.size none 0 0 [] := ⟨Blk.new w 81 [.func (.func 30) #[] #[], .slice none 0 0], World.ownsRow_nil _ _ _ _, rfl⟩

/-- The blocks that a heap of logs may write: its head, and rows of logs. -/
def Heapish (hb : Nat) (w : World) (b : Nat) : Prop := b = hb ∨ ∃ cur, w.heap[b]? = some (.cells cur 25 (0, 0))

theorem HeapAt.keep {S : Nat → Prop} {w w' : World} {base hb : Nat} {ha : Option Addr} {n cap : Nat} {us : List Lg} (h : HeapAt w base hb ha n cap us) (k : Keep S w w') (h1 : ¬ S hb) (h2 : ∀ b, (Value.slice ha n cap).ownBlock = some b → ¬ S b) : HeapAt w' base hb ha n cap us :=
  ⟨h.top.keep k h1, owns_keep h.row k h2, h.len⟩

theorem HeapAt.swap {w : World} {base hb g n cap : Nat} {us : List Lg} (h : HeapAt w base hb (some ⟨g, 0, none⟩) n cap us) {i j : Nat} (a b : Lg) :
    HeapAt ((w.setCell ⟨g, i, none⟩ (.slice b.a b.n b.c)).setCell ⟨g, j, none⟩ (.slice a.a a.n a.c)) base hb (some ⟨g, 0, none⟩) n cap (swp us i j a b) ∧ Keep (fun k => k = g) w ((w.setCell ⟨g, i, none⟩ (.slice b.a b.n b.c)).setCell ⟨g, j, none⟩ (.slice a.a a.n a.c)) := by
  obtain ⟨h1, h2⟩ := owns_swap h.row i j (.slice b.a b.n b.c) (.slice a.a a.n a.c)
  refine ⟨⟨h.top.keep h2 (fun e => owns_ne h.row h.top (by decide) rfl e.symm), ?_, by rw [swp_length]; exact h.len⟩, h2⟩
  have e : (swp us i j a b).map Lg.val = (((us.map Lg.val).set i (.slice b.a b.n b.c)).set j (.slice a.a a.n a.c)) := by simp [swp, List.map_set]; rfl
  rw [e]
  exact h1

end Go.Proofs.Ythgkhhgabpebmaa
