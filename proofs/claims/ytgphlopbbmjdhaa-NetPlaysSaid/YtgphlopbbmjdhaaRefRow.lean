/- 'Row' of the document's answer, and 'Peek' of a nil net. -/
import Derived.Test.YtgphlopbbmjdhaaSame
import Derived.Test.YtgphlopbbmjdhaaLen
namespace Go.Proofs.Ytgphlopbbmjdhaa
open Go.RowKit Go.Conc
set_option linter.unusedVariables false
set_option linter.unusedSimpArgs false

set_option maxHeartbeats 1000000 in
theorem refRow_any (n : Nat) (a : Option Addr) (len cap : Nat) (f t : Int) (w : World) :
    Calls Try.prog 22 #[.agg #[.int .i64 n, .slice a len cap], .int .i64 f, .int .i64 t] w fun e w' => e = .returned (.bool (rowIx n f t).isSome) ∧ Keep (fun _ => False) w w' := by
  by_cases h1 : f = 0 ∧ 1 ≤ t ∧ t ≤ n
  · have e : (rowIx n f t).isSome = true := by unfold rowIx; rw [if_pos h1]; rfl
    rw [e]
    obtain ⟨rfl, h2, h3⟩ := h1
    go_enter Try.func22, Try.ntmps22
    go_wp2
    go_ret
    exact ⟨by first | rfl | (simp; omega), (Keep.refl _ _).alloc _⟩
  · by_cases h4 : t = 0 ∧ 1 ≤ f ∧ f ≤ n
    · have e : (rowIx n f t).isSome = true := by unfold rowIx; rw [if_neg h1, if_pos h4]; rfl
      rw [e]
      obtain ⟨rfl, h2, h3⟩ := h4
      have hb : (f == 0) = false := by rw [beq_eq_false_iff_ne]; omega
      go_enter Try.func22, Try.ntmps22
      go_wp2
      go_ret
      exact ⟨by first | rfl | (simp; omega), (Keep.refl _ _).alloc _⟩
    · have e : (rowIx n f t).isSome = false := by unfold rowIx; rw [if_neg h1, if_neg h4]; rfl
      rw [e]
      by_cases hf : f = 0
      · subst hf
        by_cases ht : t = 0
        · subst ht
          clear h1 h4 e
          go_enter Try.func22, Try.ntmps22
          go_wp2
          go_ret
          exact ⟨by first | rfl | (simp; omega), (Keep.refl _ _).alloc _⟩
        · have hb : (t == 0) = false := by rw [beq_eq_false_iff_ne]; exact ht
          rcases (by omega : t < 1 ∨ (1 ≤ t ∧ (n : Int) < t)) with h | ⟨h, h'⟩
          all_goals
            clear h1 h4 e ht
            go_enter Try.func22, Try.ntmps22
            go_wp2
            go_ret
            exact ⟨by first | rfl | (simp; omega), (Keep.refl _ _).alloc _⟩
      · have hb : (f == 0) = false := by rw [beq_eq_false_iff_ne]; exact hf
        by_cases ht : t = 0
        · subst ht
          rcases (by omega : f < 1 ∨ (1 ≤ f ∧ (n : Int) < f)) with h | ⟨h, h'⟩
          all_goals
            clear h1 h4 e hf
            go_enter Try.func22, Try.ntmps22
            go_wp2
            go_ret
            exact ⟨by first | rfl | (simp; omega), (Keep.refl _ _).alloc _⟩
        · have hb' : (t == 0) = false := by rw [beq_eq_false_iff_ne]; exact ht
          clear h1 h4 e hf ht
          go_enter Try.func22, Try.ntmps22
          go_wp2
          go_ret
          exact ⟨by first | rfl | (simp; omega), (Keep.refl _ _).alloc _⟩

set_option maxHeartbeats 1000000 in
theorem peek_nil (f t : Int) (w : World) :
    Calls Try.prog 17 #[.pointer none, .int .i64 f, .int .i64 t] w fun e w' => e = .returned (.slice none 0 0) ∧ Keep (fun _ => False) w w' := by
  have HL := Lib.hid (fun w => len_nil f t w)
  go_enter Try.func17, Try.ntmps17
  go_wp2_with fail
  refine (HL.out _).mono ?_
  rintro e w' ⟨rfl, rfl⟩
  go_wp2_with fail
  go_loopw [7, 14] (fun l i wr => l = .slice none 0 0 ∧ i = .int .i64 0 ∧ wr = w) (fun _ _ _ => 0)
  case atStart => exact ⟨rfl, rfl, rfl⟩
  case round =>
    obtain ⟨rfl, rfl, rfl⟩ := hrel
    go_wp2_with fail
    go_ret
    exact ⟨rfl, Keep.refl _ _⟩

end Go.Proofs.Ytgphlopbbmjdhaa
