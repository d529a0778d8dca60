/- The plain functions of the layer lsn and of its reference: each returns what the Lean function beside it tells, and leaves the world as it was. -/
import Derived.Test.YtjakpmmjlmiekaaRows
import Derived.WalkKit
import Derived.WalkSpells
import Derived.WalkLawsBesides
import Derived.Laws.BitsLemmas
import Derived.Laws.Bits64b
import Derived.Lib.Hide
namespace Go.Proofs.Ytjakpmmjlmiekaa
open Go.RowKit
set_option linter.unusedVariables false
set_option linter.unusedSimpArgs false

theorem u64_wraps (n : Int) (h0 : 0 ≤ n) (h1 : n < 2 ^ 64) : IntKind.u64.wrap n = n := by
  rw [IntKind.wrap_u64]; omega

theorem u64_and15 (x : Int) (h0 : 0 ≤ x) (h1 : x < 18446744073709551616) : bits .and .u64 x 15 = x % 16 :=
  bits_mask .u64 64 (by decide) u64_wraps 4 (by decide) x h0 (by omega)

theorem u64_or4 (x y : Int) (h0 : 0 ≤ x) (h1 : x ≤ 72057594037927936) (h2 : 0 ≤ y) (h3 : y < 16) : bits .or .u64 (x * 16) y = x * 16 + y :=
  bits_join .u64 64 (by decide) u64_wraps 4 (x * 16) y (by omega) (by omega) (by omega) (by omega) (by omega) (by omega)

theorem ret1 {k : IntKind} {a b : Int} (h : a = b) : Ending.returned (.int k a) = .returned (.int k b) := by rw [h]
theorem ret2 {k k' : IntKind} {a b a' b' : Int} (h : a = a') (h' : b = b') : Ending.returned (.tuple #[.int k a, .int k' b]) = .returned (.tuple #[.int k a', .int k' b']) := by rw [h, h']

def placeB (i : Int) : Bool := decide (0 ≤ i ∧ i < 8)

set_option maxHeartbeats 400000 in
theorem place_any (i : Int) (w : World) :
    Calls Try.prog 23 #[.int .i64 i] w fun e w' => e = .returned (.bool (placeB i)) ∧ w = w' := by
  by_cases h : 0 ≤ i <;> by_cases h2 : i < 8
  all_goals
    go_enter Try.func23, Try.ntmps23
    go_wp2
    go_ret
    exact ⟨by simp [placeB, h, h2], rfl⟩

/-- The number of a count and an instance, and the error. -/
def mkL (c i : Int) : Int := if 0 ≤ i ∧ i < 8 ∧ 1 ≤ c ∧ c ≤ 72057594037927936 then c * 16 + i else 0
def mkE (c i : Int) : Int := if 0 ≤ i ∧ i < 8 then (if 1 ≤ c ∧ c ≤ 72057594037927936 then 0 else 11) else 1

set_option maxHeartbeats 400000 in
theorem make_any (c i : Int) (w : World) (h0 : 0 ≤ c) (h1 : c < 18446744073709551616) :
    Calls Try.prog 9 #[.int .u64 c, .int .i64 i] w fun e w' => e = .returned (.tuple #[.int .u64 (mkL c i), .int .i64 (mkE c i)]) ∧ w = w' := by
  by_cases hp : 0 ≤ i ∧ i < 8
  · have hpb : placeB i = true := by simp [placeB, hp]
    have hc := place_any i w
    rw [hpb] at hc
    have HC := Lib.hid hc
    clear hc hpb
    obtain ⟨hi, hi8⟩ := hp
    by_cases hc1 : c < 1
    · go_enter Try.func9, Try.ntmps9
      go_wp2_with (go_at_call 23; refine (HC.out).mono ?_; rintro e w' ⟨rfl, rfl⟩)
      go_ret2
      exact ⟨by simp [mkL, mkE, hi, hi8]; omega, rfl⟩
    · by_cases hc2 : 72057594037927936 < c
      · go_enter Try.func9, Try.ntmps9
        go_wp2_with (go_at_call 23; refine (HC.out).mono ?_; rintro e w' ⟨rfl, rfl⟩)
        go_ret2
        exact ⟨by simp [mkL, mkE, hi, hi8]; omega, rfl⟩
      · go_enter Try.func9, Try.ntmps9
        go_wp2_with (go_at_call 23; refine (HC.out).mono ?_; rintro e w' ⟨rfl, rfl⟩)
        go_ret2
        exact ⟨ret2 (by rw [u64_or4 c i (by omega) (by omega) (by omega) (by omega)]; unfold mkL; rw [if_pos ⟨hi, hi8, by omega, by omega⟩]) (by unfold mkE; rw [if_pos ⟨hi, hi8⟩, if_pos ⟨by omega, by omega⟩]), rfl⟩
  · have hpb : placeB i = false := by simp [placeB, hp]
    have hc := place_any i w
    rw [hpb] at hc
    have HC := Lib.hid hc
    clear hc hpb
    go_enter Try.func9, Try.ntmps9
    go_wp2_with (go_at_call 23; refine (HC.out).mono ?_; rintro e w' ⟨rfl, rfl⟩)
    go_ret2
    exact ⟨by simp [mkL, mkE]; omega, rfl⟩


set_option maxHeartbeats 400000 in
theorem count_any (x : Int) (w : World) (h0 : 0 ≤ x) (h1 : x < 18446744073709551616) :
    Calls Try.prog 13 #[.int .u64 x] w fun e w' => e = .returned (.int .u64 (x / 16)) ∧ w = w' := by
  go_enter Try.func13, Try.ntmps13
  go_wp2
  go_ret
  exact ⟨rfl, rfl⟩

set_option maxHeartbeats 400000 in
theorem inst_any (x : Int) (w : World) (h0 : 0 ≤ x) (h1 : x < 18446744073709551616) :
    Calls Try.prog 14 #[.int .u64 x] w fun e w' => e = .returned (.int .i64 (x % 16)) ∧ w = w' := by
  go_enter Try.func14, Try.ntmps14
  go_wp2
  go_ret
  exact ⟨ret1 (by rw [u64_and15 x h0 h1]; unfold wrap64; omega), rfl⟩

def validB (x : Int) : Bool := decide (1 ≤ x / 16 ∧ x / 16 ≤ 72057594037927936 ∧ x % 16 < 8)

set_option maxHeartbeats 400000 in
theorem valid_any (x : Int) (w : World) (h0 : 0 ≤ x) (h1 : x < 18446744073709551616) :
    Calls Try.prog 11 #[.int .u64 x] w fun e w' => e = .returned (.bool (validB x)) ∧ w = w' := by
  have hn : 0 ≤ x / 16 := by omega
  rcases (by omega : x / 16 < 1 ∨ 72057594037927936 < x / 16 ∨ (1 ≤ x / 16 ∧ x / 16 ≤ 72057594037927936)) with hc | hc | ⟨hc, hc2⟩
  all_goals
    go_enter Try.func11, Try.ntmps11
    go_wp2_with (first | (go_at_call 13; refine (count_any _ _ h0 h1).mono ?_; rintro e w' ⟨rfl, rfl⟩) | (go_at_call 14; refine (inst_any _ _ h0 h1).mono ?_; rintro e w' ⟨rfl, rfl⟩) | (go_at_call 23; refine (place_any _ _).mono ?_; rintro e w' ⟨rfl, rfl⟩))
    go_ret
    refine ⟨congrArg Ending.returned (congrArg Value.bool (Bool.eq_iff_iff.mpr ?_)), rfl⟩
    simp [validB, placeB]
    try omega

set_option maxHeartbeats 400000 in
theorem refMake_any (c i : Int) (w : World) (h0 : 0 ≤ c) (h1 : c < 18446744073709551616) :
    Calls Try.prog 10 #[.int .u64 c, .int .i64 i] w fun e w' => e = .returned (.tuple #[.int .u64 (mkL c i), .int .i64 (mkE c i)]) ∧ w = w' := by
  by_cases hi : i < 0
  · go_enter Try.func10, Try.ntmps10
    go_wp2
    go_ret2
    exact ⟨ret2 (by unfold mkL; rw [if_neg (by omega)]) (by unfold mkE; rw [if_neg (by omega)]), rfl⟩
  · by_cases hi8 : 7 < i
    · go_enter Try.func10, Try.ntmps10
      go_wp2
      go_ret2
      exact ⟨ret2 (by unfold mkL; rw [if_neg (by omega)]) (by unfold mkE; rw [if_neg (by omega)]), rfl⟩
    · by_cases hc : c = 0
      · have hcb : (c == 0) = true := by simp [hc]
        have hc' : c ≤ 0 := by omega
        clear hc
        go_enter Try.func10, Try.ntmps10
        go_wp2
        go_ret2
        exact ⟨ret2 (by unfold mkL; rw [if_neg (by omega)]) (by unfold mkE; rw [if_pos (by omega), if_neg (by omega)]), rfl⟩
      · have hcb : (c == 0) = false := by simp [hc]
        have hc' : 1 ≤ c := by omega
        clear hc
        by_cases hc2 : 72057594037927936 < c
        · go_enter Try.func10, Try.ntmps10
          go_wp2
          go_ret2
          exact ⟨ret2 (by unfold mkL; rw [if_neg (by omega)]) (by unfold mkE; rw [if_pos (by omega), if_neg (by omega)]), rfl⟩
        · go_enter Try.func10, Try.ntmps10
          go_wp2
          go_ret2
          exact ⟨ret2 (by unfold mkL; rw [if_pos (by omega)]; omega) (by unfold mkE; rw [if_pos (by omega), if_pos (by omega)]), rfl⟩

set_option maxHeartbeats 400000 in
theorem refValid_any (x : Int) (w : World) (h0 : 0 ≤ x) (h1 : x < 18446744073709551616) :
    Calls Try.prog 12 #[.int .u64 x] w fun e w' => e = .returned (.bool (validB x)) ∧ w = w' := by
  rcases (by omega : x / 16 < 1 ∨ 72057594037927936 < x / 16 ∨ (1 ≤ x / 16 ∧ x / 16 ≤ 72057594037927936)) with hc | hc | ⟨hc, hc2⟩
  all_goals
    go_enter Try.func12, Try.ntmps12
    go_wp2
    go_ret
    refine ⟨congrArg Ending.returned (congrArg Value.bool (Bool.eq_iff_iff.mpr ?_)), rfl⟩
    simp [validB]
    try omega

/-- A count behind an LSN that was seen. -/
def seeN (n x : Int) : Int := if validB x = true ∧ n < x / 16 then x / 16 else n

set_option maxHeartbeats 400000 in
theorem refSee_any (n x : Int) (w : World) (h0 : 0 ≤ x) (h1 : x < 18446744073709551616) :
    Calls Try.prog 20 #[.int .u64 n, .int .u64 x] w fun e w' => e = .returned (.int .u64 (seeN n x)) ∧ w = w' := by
  have HV : Hid (Calls Try.prog 12 #[.int .u64 x] w fun e w' => e = .returned (.bool (validB x)) ∧ w = w') := refValid_any x w h0 h1
  cases hv : validB x
  all_goals
    rw [hv] at HV
    have hv' := Lib.hid hv
    clear hv
    by_cases hc1 : n < x / 16
    all_goals
      go_enter Try.func20, Try.ntmps20
      go_wp2_with (go_at_call 12; refine (HV.out).mono ?_; rintro e w' ⟨rfl, rfl⟩)
      go_ret
      exact ⟨ret1 (by simp [seeN, hv'.out]; try omega), rfl⟩

end Go.Proofs.Ytjakpmmjlmiekaa
