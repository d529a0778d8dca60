/- The rows of a net: what lies in memory, which row there is, how much lies in it. -/
import Derived.Test.YtgphlopbbmjdhaaRows
import Derived.Test.YtgphlopbbmjdhaaHeap
import Derived.Test.YtgphlopbbmjdhaaSel
import Derived.WalkSpells
import Derived.WalkLawsBesides
import Derived.BigQuiet
import Derived.Deep.QuietTactic
import Derived.Deep.RegionWith
import Derived.Lib.Hide
namespace Go.Proofs.Ytgphlopbbmjdhaa
open Go.RowKit
set_option linter.unusedVariables false
set_option linter.unusedSimpArgs false

/-- A message: its numbers, its text, and its two lists as they lie in memory. -/
structure Qm where
  kind : Int
  txn : Int
  page : Int
  dst : Int
  fast : Bool
  lsn : Int
  wa : Option Addr
  wl : Nat
  wc : Nat
  pa : Option Addr
  pl : Nat
  pc : Nat
  body : ByteArray

def Qm.val (m : Qm) : Value := .agg #[.int .i64 m.kind, .int .i64 m.txn, .int .i64 m.page, .int .i64 m.dst, .bool m.fast, .int .u64 m.lsn, .slice m.wa m.wl m.wc, .slice m.pa m.pl m.pc, .string m.body]

/-- Where a net lies: its struct, its two rows, its channels (those up first, those down behind them). -/
structure Lay where
  b : Nat
  ru : Nat
  rd : Nat
  capU : Nat
  capD : Nat
  n : Nat
  c : Nat → Nat

structure NetAt (w : World) (L : Lay) (q : Nat → List Qm) : Prop where
  pos : 1 ≤ L.n ∧ L.n ≤ 8
  top : Two w L.b 62 (.slice (some ⟨L.ru, 0, none⟩) L.n L.capU) (.slice (some ⟨L.rd, 0, none⟩) L.n L.capD)
  up : ∀ k, k < L.n → w.cell? ⟨L.ru, k, none⟩ = some (.chan (some (L.c k)))
  down : ∀ k, k < L.n → w.cell? ⟨L.rd, k, none⟩ = some (.chan (some (L.c (L.n + k))))
  ch : ∀ k, k < 2 * L.n → ∃ s r, w.heap[L.c k]? = some (.chan 256 ((q k).map Qm.val).toArray false s r false)
  len : ∀ k, k < 2 * L.n → (q k).length ≤ 256
  inj : ∀ i j, i < 2 * L.n → j < 2 * L.n → L.c i = L.c j → i = j

/-- The blocks of a net. -/
def Lay.blk (L : Lay) (k : Nat) : Prop := k = L.b ∨ k = L.ru ∨ k = L.rd ∨ ∃ i, i < 2 * L.n ∧ k = L.c i

/-- The number of the row between two places, if there is one. -/
def rowIx (n : Nat) (f t : Int) : Option Nat :=
  if f = 0 ∧ 1 ≤ t ∧ t ≤ n then some (n + (t - 1).toNat) else if t = 0 ∧ 1 ≤ f ∧ f ≤ n then some (f - 1).toNat else none

theorem rowIx_lt {n : Nat} {f t : Int} {i : Nat} (h : rowIx n f t = some i) : i < 2 * n := by
  unfold rowIx at h
  split at h
  · simp at h; omega
  · split at h
    · simp at h; omega
    · simp at h

theorem NetAt.keep {S : Nat → Prop} {w w' : World} {L : Lay} {q : Nat → List Qm} (h : NetAt w L q) (k : Keep S w w') (hS : ∀ i, L.blk i → ¬ S i) : NetAt w' L q where
  pos := h.pos
  top := h.top.keep k (hS _ (.inl rfl))
  up := fun j hj => (k.cell (p := ⟨L.ru, j, none⟩) (World.block_lt_of_cell? _ _ (h.up j hj)) (hS _ (.inr (.inl rfl)))).trans (h.up j hj)
  down := fun j hj => (k.cell (p := ⟨L.rd, j, none⟩) (World.block_lt_of_cell? _ _ (h.down j hj)) (hS _ (.inr (.inr (.inl rfl))))).trans (h.down j hj)
  ch := fun j hj => by
    obtain ⟨s, r, hc⟩ := h.ch j hj
    exact ⟨s, r, (k.block _ (lt_of_block hc) (hS _ (.inr (.inr (.inr ⟨j, hj, rfl⟩))))).trans hc⟩
  len := h.len
  inj := h.inj

theorem NetAt.blk_lt {w : World} {L : Lay} {q : Nat → List Qm} (h : NetAt w L q) {k : Nat} (hk : L.blk k) : k < w.heap.size := by
  rcases hk with rfl | rfl | rfl | ⟨i, hi, rfl⟩
  · exact h.top.lt
  · exact World.block_lt_of_cell? _ _ (h.up 0 (by have := h.pos; omega))
  · exact World.block_lt_of_cell? _ _ (h.down 0 (by have := h.pos; omega))
  · obtain ⟨s, r, hc⟩ := h.ch i hi; exact lt_of_block hc

set_option maxHeartbeats 400000 in
theorem row_nil (f t : Int) (w : World) :
    Calls Try.prog 25 #[.pointer none, .int .i64 f, .int .i64 t] w fun e w' => e = .returned (.chan none) ∧ w = w' := by
  go_enter Try.func25, Try.ntmps25
  go_wp2
  go_ret
  exact ⟨rfl, rfl⟩

set_option maxHeartbeats 400000 in
theorem row_down (L : Lay) (q : Nat → List Qm) (t : Int) (w : World) (h : NetAt w L q) (t0 : 1 ≤ t) (t1 : t ≤ L.n) :
    Calls Try.prog 25 #[.pointer (some ⟨L.b, 0, none⟩), .int .i64 0, .int .i64 t] w fun e w' => e = .returned (.chan (some (L.c (L.n + (t - 1).toNat)))) ∧ w = w' := by
  have g1 := h.top.snd
  obtain ⟨j, hj⟩ : ∃ j : Nat, t = j + 1 := ⟨(t - 1).toNat, by omega⟩
  subst hj
  have hn := h.pos.2
  have g2 := h.down j (by omega)
  rw [show ((j : Int) + 1 - 1).toNat = j by omega]
  clear h
  go_enter Try.func25, Try.ntmps25
  go_wp2
  go_ret
  exact ⟨rfl, rfl⟩

set_option maxHeartbeats 400000 in
theorem row_up (L : Lay) (q : Nat → List Qm) (f : Int) (w : World) (h : NetAt w L q) (f0 : 1 ≤ f) (f1 : f ≤ L.n) :
    Calls Try.prog 25 #[.pointer (some ⟨L.b, 0, none⟩), .int .i64 f, .int .i64 0] w fun e w' => e = .returned (.chan (some (L.c (f - 1).toNat))) ∧ w = w' := by
  have g1 := h.top.fst
  have g3 := h.top.snd
  obtain ⟨j, hj⟩ : ∃ j : Nat, f = j + 1 := ⟨(f - 1).toNat, by omega⟩
  subst hj
  have hn := h.pos.2
  have g2 := h.up j (by omega)
  rw [show ((j : Int) + 1 - 1).toNat = j by omega]
  clear h
  have hb : ((j : Int) + 1 == 0) = false := by rw [beq_eq_false_iff_ne]; omega
  go_enter Try.func25, Try.ntmps25
  go_wp2
  go_ret
  exact ⟨rfl, rfl⟩

set_option maxHeartbeats 1000000 in
theorem row_none (L : Lay) (q : Nat → List Qm) (f t : Int) (w : World) (h : NetAt w L q) (hr : rowIx L.n f t = none) :
    Calls Try.prog 25 #[.pointer (some ⟨L.b, 0, none⟩), .int .i64 f, .int .i64 t] w fun e w' => e = .returned (.chan none) ∧ w = w' := by
  have g1 := h.top.fst
  have g3 := h.top.snd
  have hn := h.pos.2
  have hh : ¬ (f = 0 ∧ 1 ≤ t ∧ t ≤ L.n) ∧ ¬ (t = 0 ∧ 1 ≤ f ∧ f ≤ L.n) := by
    unfold rowIx at hr
    split at hr
    · simp at hr
    · split at hr
      · simp at hr
      · exact ⟨by assumption, by assumption⟩
  clear hr h
  have hf : f = 0 ∨ (f == 0) = false := by
    rcases Decidable.em (f = 0) with e | e
    · exact .inl e
    · exact .inr (by rw [beq_eq_false_iff_ne]; exact e)
  have ht : t = 0 ∨ (t == 0) = false := by
    rcases Decidable.em (t = 0) with e | e
    · exact .inl e
    · exact .inr (by rw [beq_eq_false_iff_ne]; exact e)
  rcases hf with rfl | hf
  · rcases ht with rfl | ht
    · clear hh
      go_enter Try.func25, Try.ntmps25
      go_wp2
      go_ret
      exact ⟨rfl, rfl⟩
    · have : t ≠ 0 := by simpa using ht
      rcases (by omega : t < 1 ∨ (1 ≤ t ∧ (L.n : Int) < t)) with h1 | ⟨h1, h2⟩
      all_goals
        clear hh this
        go_enter Try.func25, Try.ntmps25
        go_wp2
        go_ret
        exact ⟨rfl, rfl⟩
  · rcases ht with rfl | ht
    · have : f ≠ 0 := by simpa using hf
      rcases (by omega : f < 1 ∨ (1 ≤ f ∧ (L.n : Int) < f)) with h1 | ⟨h1, h2⟩
      all_goals
        clear hh this
        go_enter Try.func25, Try.ntmps25
        go_wp2
        go_ret
        exact ⟨rfl, rfl⟩
    · clear hh
      go_enter Try.func25, Try.ntmps25
      go_wp2
      go_ret
      exact ⟨rfl, rfl⟩

/-- The row between two places. -/
def rowV (L : Lay) (f t : Int) : Value := match rowIx L.n f t with | some i => .chan (some (L.c i)) | none => .chan none

theorem row_some (L : Lay) (q : Nat → List Qm) (f t : Int) (i : Nat) (w : World) (h : NetAt w L q) (hr : rowIx L.n f t = some i) :
    Calls Try.prog 25 #[.pointer (some ⟨L.b, 0, none⟩), .int .i64 f, .int .i64 t] w fun e w' => e = .returned (.chan (some (L.c i))) ∧ w = w' := by
  unfold rowIx at hr
  split at hr
  · rename_i g
    obtain ⟨rfl, g1, g2⟩ := g
    simp only [Option.some.injEq] at hr
    subst hr
    exact row_down L q t w h g1 g2
  · split at hr
    · rename_i g
      obtain ⟨rfl, g1, g2⟩ := g
      simp only [Option.some.injEq] at hr
      subst hr
      exact row_up L q f w h g1 g2
    · simp at hr

end Go.Proofs.Ytgphlopbbmjdhaa
