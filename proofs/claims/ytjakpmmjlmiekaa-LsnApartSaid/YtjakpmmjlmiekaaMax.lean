/- The greatest of a row of numbers: the program's and the reference's. -/
import Derived.Test.YtjakpmmjlmiekaaClock
namespace Go.Proofs.Ytjakpmmjlmiekaa
open Go.RowKit
set_option linter.unusedVariables false
set_option linter.unusedSimpArgs false

/-- The greatest of the first k numbers. -/
def mxTo (zs : List Int) : Nat → Int
  | 0 => 0
  | k + 1 => if mxTo zs k < zs.getD k 0 then zs.getD k 0 else mxTo zs k

set_option maxHeartbeats 400000 in
theorem max_nil (a : Option Addr) (cap : Nat) (w : World) :
    Calls Try.prog 21 #[.slice a 0 cap] w fun e w' => e = .returned (.int .u64 0) ∧ w = w' := by
  go_enter Try.func21, Try.ntmps21
  go_wp2
  refine wp_loop_rounds 1 ?_
  rw [rounds_succ]
  go_wp2
  go_ret
  exact ⟨rfl, rfl⟩

set_option maxHeartbeats 400000 in
theorem refMax_nil (a : Option Addr) (cap : Nat) (w : World) :
    Calls Try.prog 22 #[.slice a 0 cap] w fun e w' => e = .returned (.int .u64 0) ∧ w = w' := by
  go_enter Try.func22, Try.ntmps22
  go_wp2
  refine wp_loop_rounds 1 ?_
  rw [rounds_succ]
  go_wp2
  go_ret
  exact ⟨rfl, rfl⟩

set_option maxHeartbeats 400000 in
theorem max_row (b off len cap : Nat) (zs : List Int) (w : World) (hl : len ≤ 9223372036854775807)
    (hc : ∀ j, j < len → w.cell? ⟨b, off + j, none⟩ = some (.int .u64 (zs.getD j 0))) :
    Calls Try.prog 21 #[.slice (some ⟨b, off, none⟩) len cap] w fun e w' => e = .returned (.int .u64 (mxTo zs len)) ∧ w = w' := by
  have HC := Lib.hid hc
  clear hc
  go_enter Try.func21, Try.ntmps21
  go_wp2
  go_loop [3, 5, 8] (fun m x i => ∃ k : Nat, k ≤ len ∧ i = .int .i64 k ∧ m = .int .u64 (mxTo zs k)) (fun _ _ i => len - (intOf i).toNat)
  case atStart => exact ⟨0, Nat.zero_le _, rfl, rfl⟩
  case round =>
    obtain ⟨k, hk, rfl, rfl⟩ := hrel
    by_cases hlt : k < len
    · have hcell := HC.out k hlt
      have hS : mxTo zs (k + 1) = if mxTo zs k < zs.getD k 0 then zs.getD k 0 else mxTo zs k := rfl
      generalize zs.getD k 0 = z at hS hcell
      have HS := Lib.hid hS
      clear hS
      by_cases hz : mxTo zs k < z
      · go_wp2
        go_round
        case rel => exact ⟨k + 1, by omega, by go_num, by rw [HS.out, if_pos hz]⟩
        case measure => simp [intOf]; omega
      · go_wp2
        go_round
        case rel => exact ⟨k + 1, by omega, by go_num, by rw [HS.out, if_neg hz]⟩
        case measure => simp [intOf]; omega
    · have : k = len := by omega
      subst this
      go_wp2
      go_ret
      exact ⟨rfl, rfl⟩

set_option maxHeartbeats 400000 in
theorem refMax_row (b off len cap : Nat) (zs : List Int) (w : World) (hl : len ≤ 9223372036854775807)
    (hc : ∀ j, j < len → w.cell? ⟨b, off + j, none⟩ = some (.int .u64 (zs.getD j 0))) :
    Calls Try.prog 22 #[.slice (some ⟨b, off, none⟩) len cap] w fun e w' => e = .returned (.int .u64 (mxTo zs len)) ∧ w = w' := by
  have HC := Lib.hid hc
  clear hc
  go_enter Try.func22, Try.ntmps22
  go_wp2
  go_loop [3, 4] (fun m i => ∃ k : Nat, k ≤ len ∧ i = .int .i64 k ∧ m = .int .u64 (mxTo zs k)) (fun _ i => len - (intOf i).toNat)
  case atStart => exact ⟨0, Nat.zero_le _, rfl, rfl⟩
  case round =>
    obtain ⟨k, hk, rfl, rfl⟩ := hrel
    by_cases hlt : k < len
    · have hcell := HC.out k hlt
      have hS : mxTo zs (k + 1) = if mxTo zs k < zs.getD k 0 then zs.getD k 0 else mxTo zs k := rfl
      generalize zs.getD k 0 = z at hS hcell
      have HS := Lib.hid hS
      clear hS
      by_cases hz : mxTo zs k < z
      · go_wp2
        go_round
        case rel => exact ⟨k + 1, by omega, by go_num, by rw [HS.out, if_pos hz]⟩
        case measure => simp [intOf]; omega
      · go_wp2
        go_round
        case rel => exact ⟨k + 1, by omega, by go_num, by rw [HS.out, if_neg hz]⟩
        case measure => simp [intOf]; omega
    · have : k = len := by omega
      subst this
      go_wp2
      go_ret
      exact ⟨rfl, rfl⟩

theorem info23 : (Try.prog.info? 23).map (fun i => (i.zero, i.size, i.bytes)) = some (some (.int .u64 0), 1, 8) := by kernel_rfl

/-- The law's own row: the first numbers, one behind the other. -/
def firsts (zs : List Int) (k : Nat) : List Value := (zs.take k).map (Value.int .u64)

theorem firsts_succ (zs : List Int) (k : Nat) (h : k < zs.length) : firsts zs (k + 1) = firsts zs k ++ [.int .u64 (zs.getD k 0)] := by
  unfold firsts
  rw [List.take_succ_eq_append_getElem h, List.map_append]
  simp [List.getD_eq_getElem?_getD, List.getElem?_eq_getElem h]

theorem firsts_length (zs : List Int) (k : Nat) (h : k ≤ zs.length) : (firsts zs k).length = k := by simp [firsts, h]

theorem firsts_at (zs : List Int) (n j : Nat) (h : j < n) (hn : n ≤ zs.length) : (firsts zs n)[j]? = some (.int .u64 (zs.getD j 0)) := by
  simp [firsts, List.getElem?_take, h, List.getElem?_eq_getElem (show j < zs.length by omega)]

end Go.Proofs.Ytjakpmmjlmiekaa
