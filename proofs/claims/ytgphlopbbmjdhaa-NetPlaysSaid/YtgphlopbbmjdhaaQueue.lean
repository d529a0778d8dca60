/- What all rows of a net say; sent, taken. -/
import Derived.Test.YtgphlopbbmjdhaaPeek
namespace Go.Proofs.Ytgphlopbbmjdhaa
open Go.RowKit Go.Conc
set_option linter.unusedVariables false
set_option linter.unusedSimpArgs false

def putC (C : Nat → List Cont) (i : Nat) (l : List Cont) : Nat → List Cont := fun k => if k = i then l else C k
theorem putC_self (q : Nat → List Cont) (i : Nat) (l : List Cont) : putC q i l i = l := by simp [putC]
theorem putC_other (q : Nat → List Cont) {i j : Nat} (l : List Cont) (h : j ≠ i) : putC q i l j = q j := by simp [putC, h]

structure QHolds (w : World) (base : Nat) (L : Lay) (q : Nat → List Qm) (C : Nat → List Cont) : Prop where
  each : ∀ i, i < 2 * L.n → Each (Holds w base) (q i) (C i)
  few : ∀ i, i < 2 * L.n → ∀ c ∈ C i, c.few

theorem QHolds.start (w : World) (base : Nat) (L : Lay) : QHolds w base L (fun _ => []) (fun _ => []) := ⟨fun _ _ => .nil _, fun _ _ c hc => by simp at hc⟩

theorem QHolds.keep0 {w w' : World} {base : Nat} {L : Lay} {q : Nat → List Qm} {C : Nat → List Cont} (h : QHolds w base L q C) (k : Keep (fun _ => False) w w') : QHolds w' base L q C :=
  ⟨fun i hi => (h.each i hi).mono (fun x c _ hx => hx.keep k (fun _ _ h => h)), h.few⟩

theorem QHolds.keep {w w' : World} {base : Nat} {L : Lay} {q : Nat → List Qm} {C : Nat → List Cont} (h : QHolds w base L q C) (hN : NetAt w L q) {i : Nat} (hi : i < 2 * L.n) (k : Keep (fun k => k = L.c i) w w') : QHolds w' base L q C :=
  ⟨fun j hj => (h.each j hj).mono (fun x c _ hx => hx.keep_net hN hi k), h.few⟩

theorem QHolds.put {w : World} {base : Nat} {L : Lay} {q : Nat → List Qm} {C : Nat → List Cont} (h : QHolds w base L q C) (i : Nat) {l : List Qm} {cs : List Cont} (hl : Each (Holds w base) l cs) (hf : ∀ c ∈ cs, c.few) : QHolds w base L (put q i l) (putC C i cs) :=
  ⟨fun j hj => by
    by_cases e : j = i
    · subst e; rw [put_self, putC_self]; exact hl
    · rw [put_other _ _ e, putC_other _ _ e]; exact h.each j hj,
   fun j hj c hc => by
    by_cases e : j = i
    · subst e; rw [putC_self] at hc; exact hf c hc
    · rw [putC_other _ _ e] at hc; exact h.few j hj c hc⟩

/-- A message that says something, sent anywhere: the net holds it behind it, or is as it was. -/
theorem send_queue (L : Lay) (q : Nat → List Qm) (C : Nat → List Cont) (base : Nat) (f t : Int) (m : Qm) (c : Cont) (w : World) (h : NetAt w L q) (hq : QHolds w base L q C) (hb : base ≤ w.heap.size) (hm : Reads w m c) (hf : c.few) :
    Calls Try.prog 11 #[.pointer (some ⟨L.b, 0, none⟩), .int .i64 f, .int .i64 t, .agg #[.int .i64 m.kind, .int .i64 m.txn, .int .i64 m.page, .int .i64 m.dst, .bool m.fast, .int .u64 m.lsn, .slice m.wa m.wl m.wc, .slice m.pa m.pl m.pc, .string m.body]] w fun e w' =>
      ∃ r q' C', e = .returned (.int .i64 r) ∧ NetAt w' L q' ∧ QHolds w' base L q' C' ∧ Keep L.blk w w' := by
  rcases hr : rowIx L.n f t with _ | i
  · refine (send_none L q f t m _ _ _ _ _ _ w h hr).mono fun e w' ⟨he, hk⟩ => ⟨1, q, C, he, h.keep hk (fun _ _ h => h), hq.keep0 hk, hk.mono (fun _ h => h.elim)⟩
  · rcases (by have := h.len i (rowIx_lt hr); omega : (q i).length < 256 ∨ (q i).length = 256) with hroom | hfull
    · refine (send_holds L q f t i m c w h hr hroom hm hf).mono fun e w' ⟨he, x, hN, hk, hx⟩ => ⟨0, _, putC C i (C i ++ [c]), he, hN, ?_, hk.mono (fun k e => .inr (.inr (.inr ⟨i, rowIx_lt hr, e⟩)))⟩
      have h1 := hq.keep h (rowIx_lt hr) hk
      refine h1.put i ((h1.each i (rowIx_lt hr)).snoc (hx.base hb)) (fun d hd => ?_)
      rcases List.mem_append.1 hd with hd | hd
      · exact hq.few i (rowIx_lt hr) d hd
      · rw [List.mem_singleton] at hd; subst hd; exact hf
    · refine (send_full_reads L q f t i m c w h hr hfull hm hf).mono fun e w' ⟨he, hk⟩ => ⟨7, q, C, he, h.keep hk (fun _ _ h => h), hq.keep0 hk, hk.mono (fun _ h => h.elim)⟩

/-- The first message of any row, taken, if there is one. -/
theorem take_queue (L : Lay) (q : Nat → List Qm) (C : Nat → List Cont) (base : Nat) (f t : Int) (w : World) (h : NetAt w L q) (hq : QHolds w base L q C) :
    Calls Try.prog 13 #[.pointer (some ⟨L.b, 0, none⟩), .int .i64 f, .int .i64 t] w fun e w' =>
      ∃ v q' C', e = .returned (.tuple v) ∧ NetAt w' L q' ∧ QHolds w' base L q' C' ∧ Keep L.blk w w' := by
  rcases hr : rowIx L.n f t with _ | i
  · exact (take_none L q f t w h hr).mono fun e w' ⟨he, hk⟩ => ⟨_, q, C, he, h.keep hk (fun _ _ h => h), hq.keep0 hk, hk.mono (fun _ h => h.elim)⟩
  · have hi := rowIx_lt hr
    rcases hl : q i with _ | ⟨x, rest⟩
    · exact (take_empty L q f t i w h hr hl).mono fun e w' ⟨he, hk⟩ => ⟨_, q, C, he, h.keep hk (fun _ _ h => h), hq.keep0 hk, hk.mono (fun _ h => h.elim)⟩
    · refine (take_some L q f t i x rest w h hr hl).mono fun e w' ⟨he, hN, hk⟩ => ⟨_, _, putC C i (C i).tail, he, hN, ?_, hk.mono (fun k e => .inr (.inr (.inr ⟨i, hi, e⟩)))⟩
      have h1 := hq.keep h hi hk
      have h2 := h1.each i hi
      rw [hl] at h2
      rcases hc : C i with _ | ⟨c, cs⟩
      · rw [hc] at h2; have := h2.len; simp at this
      · rw [hc] at h2
        exact h1.put i h2.tail (fun d hd => hq.few i hi d (by rw [hc]; exact List.mem_cons_of_mem _ hd))

end Go.Proofs.Ytgphlopbbmjdhaa
