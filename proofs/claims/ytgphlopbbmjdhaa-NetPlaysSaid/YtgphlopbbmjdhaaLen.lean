/- Len and Sum of the net. -/
import Derived.Test.YtgphlopbbmjdhaaSend
import Derived.Conc.LoneSelectN
namespace Go.Proofs.Ytgphlopbbmjdhaa
open Go.RowKit Go.Conc
set_option linter.unusedVariables false
set_option linter.unusedSimpArgs false

theorem len_chan_none (w : World) : (Builtin.len_ #[63] 3 #[.chan none]).run Try.prog w = .ok (.int .i64 0) w := by
  simp [Builtin.len_, run_underlying Try.underlying63, goInt]

theorem len_chan (w : World) (c s r : Nat) (l : List Qm) (hc : w.heap[c]? = some (.chan 256 (l.map Qm.val).toArray false s r false)) :
    (Builtin.len_ #[63] 3 #[.chan (some c)]).run Try.prog w = .ok (.int .i64 l.length) w := by
  have := run_len_chan (P := Try.prog) 63 3 Try.underlying63 hc
  simpa [goInt] using this

set_option maxHeartbeats 1000000 in
theorem len_some (L : Lay) (q : Nat → List Qm) (f t : Int) (i : Nat) (w : World) (h : NetAt w L q) (hr : rowIx L.n f t = some i) :
    Calls Try.prog 12 #[.pointer (some ⟨L.b, 0, none⟩), .int .i64 f, .int .i64 t] w fun e w' => e = .returned (.int .i64 (q i).length) ∧ w = w' := by
  have HR := Lib.hid (row_some L q f t i w h hr)
  obtain ⟨s, r, hc⟩ := h.ch i (rowIx_lt hr)
  have hl := len_chan w _ s r _ hc
  clear h hr hc
  go_enter Try.func12, Try.ntmps12
  go_wp2_with (go_at_call 25; refine (HR.out).mono ?_; rintro e w' ⟨rfl, rfl⟩)
  go_ret
  exact ⟨rfl, rfl⟩

set_option maxHeartbeats 1000000 in
theorem len_none (L : Lay) (q : Nat → List Qm) (f t : Int) (w : World) (h : NetAt w L q) (hr : rowIx L.n f t = none) :
    Calls Try.prog 12 #[.pointer (some ⟨L.b, 0, none⟩), .int .i64 f, .int .i64 t] w fun e w' => e = .returned (.int .i64 0) ∧ w = w' := by
  have HR := Lib.hid (row_none L q f t w h hr)
  have hl := len_chan_none
  clear h hr
  go_enter Try.func12, Try.ntmps12
  go_wp2_with (go_at_call 25; refine (HR.out).mono ?_; rintro e w' ⟨rfl, rfl⟩)
  go_ret
  exact ⟨rfl, rfl⟩

set_option maxHeartbeats 1000000 in
theorem len_nil (f t : Int) (w : World) :
    Calls Try.prog 12 #[.pointer none, .int .i64 f, .int .i64 t] w fun e w' => e = .returned (.int .i64 0) ∧ w = w' := by
  have HR := Lib.hid (row_nil f t w)
  have hl := len_chan_none
  go_enter Try.func12, Try.ntmps12
  go_wp2_with (go_at_call 25; refine (HR.out).mono ?_; rintro e w' ⟨rfl, rfl⟩)
  go_ret
  exact ⟨rfl, rfl⟩

/-- How many lie in the rows of the first k instances. -/
def sumTo (q : Nat → List Qm) (n : Nat) : Nat → Nat
  | 0 => 0
  | k + 1 => sumTo q n k + ((q k).length + (q (n + k)).length)

theorem sumTo_le (q : Nat → List Qm) (n : Nat) (h : ∀ k, k < 2 * n → (q k).length ≤ 256) : ∀ k, k ≤ n → sumTo q n k ≤ 512 * k
  | 0, _ => Nat.le_refl _
  | k + 1, hk => by
    have := sumTo_le q n h k (by omega)
    have h1 := h k (by omega)
    have h2 := h (n + k) (by omega)
    simp only [sumTo]; omega

set_option maxHeartbeats 1000000 in
theorem sum_nil (w : World) :
    Calls Try.prog 14 #[.pointer none] w fun e w' => e = .returned (.int .i64 0) ∧ w = w' := by
  go_enter Try.func14, Try.ntmps14
  go_wp2
  go_ret
  exact ⟨rfl, rfl⟩

set_option maxHeartbeats 2000000 in
set_option maxRecDepth 100000 in
theorem sum_any (L : Lay) (q : Nat → List Qm) (w : World) (h : NetAt w L q) :
    Calls Try.prog 14 #[.pointer (some ⟨L.b, 0, none⟩)] w fun e w' => e = .returned (.int .i64 (sumTo q L.n L.n)) ∧ ∃ d, w' = w.drewN d := by
  have g1 := h.top.fst
  have g2 := h.top.snd
  have hn := h.pos.2
  have H := Lib.hid h
  clear h
  go_enter Try.func14, Try.ntmps14
  go_wp2
  go_loopw [3, 4, 12] (fun s _ i wr => ∃ (k d : Nat), k ≤ L.n ∧ i = .int .i64 k ∧ s = .int .i64 (sumTo q L.n k) ∧ wr = w.drewN d) (fun _ _ i _ => L.n - (intOf i).toNat)
  case atStart => exact ⟨0, 0, Nat.zero_le _, rfl, rfl, rfl⟩
  case round =>
    obtain ⟨k, d, hk, rfl, rfl, rfl⟩ := hrel
    by_cases hlt : k < L.n
    · have c1 := H.out.up k hlt
      have c2 := H.out.down k hlt
      obtain ⟨s1, r1, hc1⟩ := H.out.ch k (by omega)
      obtain ⟨s2, r2, hc2⟩ := H.out.ch (L.n + k) (by omega)
      have l1 := fun d => len_chan (w.drewN d) _ s1 r1 _ hc1
      have l2 := fun d => len_chan (w.drewN d) _ s2 r2 _ hc2
      have b1 := H.out.len k (by omega)
      have b2 := H.out.len (L.n + k) (by omega)
      have b3 := sumTo_le q L.n H.out.len k hk
      have hS : sumTo q L.n (k + 1) = sumTo q L.n k + ((q k).length + (q (L.n + k)).length) := rfl
      have HS := Lib.hid hS
      clear hc1 hc2 hS
      generalize (q k).length = a1 at l1 b1 HS
      generalize (q (L.n + k)).length = a2 at l2 b2 HS
      have e1 : IntKind.i64.wrap ((a1 : Int) + (a2 : Int)) = (a1 : Int) + (a2 : Int) := IntWalk.i64_in _ (by omega)
      have e2 : IntKind.i64.wrap (((sumTo q L.n k : Nat) : Int) + ((a1 : Int) + (a2 : Int))) = ((sumTo q L.n k : Nat) : Int) + ((a1 : Int) + (a2 : Int)) := IntWalk.i64_in _ (by omega)
      have i1 : (k : Int) < (L.n : Int) := by omega
      have i0 : (0 : Int) ≤ (k : Int) := by omega
      go_wp2_with fail
      go_quiet (fail)
      clear e1 e2 l1 l2
      go_wp2
      go_roundw
      case rel => exact ⟨k + 1, d + nq, by omega, by go_num, by rw [HS.out]; simp, rfl⟩
      case measure => simp [intOf]; omega
    · have : k = L.n := by omega
      subst this
      go_wp2
      go_ret
      exact ⟨rfl, d, rfl⟩

end Go.Proofs.Ytgphlopbbmjdhaa
