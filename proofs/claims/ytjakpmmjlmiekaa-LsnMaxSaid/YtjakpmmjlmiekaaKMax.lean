/- The walk of the law LsnMax: it returns true, and writes nothing that was there. -/
import Derived.Test.YtjakpmmjlmiekaaMax
import Derived.OpenShut
namespace Go.Proofs.Ytjakpmmjlmiekaa
open Go.RowKit
set_option linter.unusedVariables false
set_option linter.unusedSimpArgs false

/-- What is owned is a row that can be read: nothing, or cells. -/
theorem owns_row {w : World} {base n : Nat} {e : TypeId} {v : Value} {xs : List Value} (h : w.ownsRow base e 1 v n xs) :
    ∃ a cap, v = .slice a n cap ∧ (0 < n → ∃ g, a = some ⟨g, 0, none⟩ ∧ base ≤ g ∧ ∀ j, j < n → w.cell? ⟨g, j, none⟩ = xs[j]?) := by
  rcases h.2 with ⟨rfl, rfl⟩ | ⟨g, cap, cur, rfl, hb, hg, r⟩
  · exact ⟨none, 0, rfl, fun h => absurd h (Nat.lt_irrefl _)⟩
  · exact ⟨_, cap, rfl, fun _ => ⟨g, rfl, hb, fun j hj => World.ownsRow.cellAt (size := 1) h j (by omega)⟩⟩

theorem max_own (w : World) (base n : Nat) (e : TypeId) (v : Value) (zs : List Int) (h : w.ownsRow base e 1 v n (firsts zs n)) (hn : n ≤ zs.length) (hm : n ≤ 9223372036854775807) :
    Calls Try.prog 21 #[v] w (fun e w' => e = .returned (.int .u64 (mxTo zs n)) ∧ w = w') ∧ Calls Try.prog 22 #[v] w (fun e w' => e = .returned (.int .u64 (mxTo zs n)) ∧ w = w') := by
  obtain ⟨a, cap, rfl, hx⟩ := owns_row h
  rcases Nat.eq_zero_or_pos n with rfl | hp
  · exact ⟨max_nil a cap w, refMax_nil a cap w⟩
  · obtain ⟨g, rfl, _, hc⟩ := hx hp
    have hc' : ∀ j, j < n → w.cell? ⟨g, 0 + j, none⟩ = some (.int .u64 (zs.getD j 0)) := fun j hj => by
      rw [Nat.zero_add, hc j hj, firsts_at zs n j hj hn]
    exact ⟨max_row g 0 n cap zs w hm hc', refMax_row g 0 n cap zs w hm hc'⟩

set_option maxHeartbeats 1000000 in
set_option maxRecDepth 100000 in
theorem lsnMax_walk0 (a : Option Addr) (cap : Nat) (w : World) :
    Calls Try.prog 8 #[.slice a 0 cap] w fun e w' => e = .returned (.bool true) ∧ Below w.heap.size w w' := by
  have HL := Lib.hid lives_yes
  have HM := Lib.hid max_nil
  have HR := Lib.hid refMax_nil
  go_enter Try.func8, Try.ntmps8
  go_wp2
  refine wp_loop_rounds 1 ?_
  rw [rounds_succ]
  go_wp2_with fail
  refine (HM.out _ _ _).mono ?_
  rintro e w' ⟨rfl, rfl⟩
  go_wp2_with fail
  refine (HR.out _ _ _).mono ?_
  rintro e w' ⟨rfl, rfl⟩
  go_wp2_with fail
  refine (HM.out _ _ _).mono ?_
  rintro e w' ⟨rfl, rfl⟩
  go_wp2_with fail
  refine (HL.out _).mono ?_
  rintro e w' ⟨rfl, hkp⟩
  go_wp2_with fail
  go_ret
  exact ⟨rfl, ((Below.refl _ _).alloc (Nat.le_refl _) _).trans (hkp.below (by simp) (fun _ _ h => h))⟩

set_option maxHeartbeats 1000000 in
set_option maxRecDepth 100000 in
theorem lsnMax_walk (b off len cap : Nat) (zs : List Int) (w : World) (hb : b < w.heap.size) (hlen : len ≤ zs.length) (hm : len ≤ 9223372036854775807)
    (hc : ∀ j, j < len → w.cell? ⟨b, off + j, none⟩ = some (.int .u64 (zs.getD j 0))) :
    Calls Try.prog 8 #[.slice (some ⟨b, off, none⟩) len cap] w fun e w' => e = .returned (.bool true) ∧ Below w.heap.size w w' := by
  have HC := Lib.hid hc
  clear hc
  have HL := Lib.hid lives_yes
  obtain ⟨i0, hi, hz0, hz1, hz2⟩ := info_parts info23
  go_enter Try.func8, Try.ntmps8
  go_wp2
  go_loopw [3, 4] (fun v i wr => ∃ k : Nat, k ≤ len ∧ k ≤ 100 ∧ i = .int .i64 k ∧ wr.ownsRow w.heap.size 23 1 v k (firsts zs k) ∧ Below w.heap.size w wr) (fun _ i _ => len - (intOf i).toNat)
  case atStart => exact ⟨0, Nat.zero_le _, Nat.zero_le _, rfl, World.ownsRow_made _ _ _ (Nat.le_refl _) (Nat.zero_le _) rfl, (Below.refl _ _).alloc (Nat.le_refl _) _⟩
  case round =>
    obtain ⟨k, hk, hk1, rfl, hown, hbel⟩ := hrel
    rcases (by omega : (k < len ∧ k < 100) ∨ (k < len ∧ 100 ≤ k) ∨ len ≤ k) with ⟨hlt, hlt1⟩ | ⟨hlt, hge⟩ | hge
    · have hcell : wr.cell? ⟨b, off + k, none⟩ = some (.int .u64 (zs.getD k 0)) := (hbel.cell (p := ⟨b, off + k, none⟩) hb).trans (HC.out k hlt)
      have hF := firsts_succ zs k (by omega)
      generalize zs.getD k 0 = z at hcell hF
      have HF := Lib.hid hF
      have HO := Lib.hid hown
      have HB := Lib.hid hbel
      clear hF hbel hown
      have hsz := HB.out.size
      go_wp2_with (at_builtin; refine wpList_append_own _ rfl _ _ 37 rfl w.heap.size 23 i0 (.int .u64 0) 1 8 Try.underlying37 hi hz0 hz1 hz2 rfl (by decide) _ _ _ rfl (HO.out.alloc _) ⟨wr.heap.size, 0, none⟩ 1 1 [.int .u64 z] rfl rfl ?c1 ?c2 ?c3 ?c4 ?c5 ?_)
      case c1 => exact (cell_one_new _ _ _)
      case c2 => simp [Value.oneCell']
      case c3 => unfold maxLen; omega
      case c4 => omega
      case c5 => simp; omega
      intro v' w1 hown' hgrow _
      rw [← HF.out] at hown'
      have HO' := Lib.hid hown'
      have HG := Lib.hid hgrow
      clear hown' hgrow
      go_wp2
      go_roundw
      case rel => exact ⟨k + 1, by omega, by omega, by go_num, HO'.out, (HB.out.alloc hsz _).grown HG.out (by simp; omega) (fun j hj => (HO.out.lt j hj).1)⟩
      case measure => simp [intOf]; omega
    all_goals
      obtain ⟨hX, hY⟩ := max_own wr _ k _ _ zs hown (by omega) (by omega)
      have HX := Lib.hid hX
      have HY := Lib.hid hY
      have HZ := Lib.hid (max_nil none 0)
      have HB := Lib.hid hbel
      clear hX hY hown hbel
      go_wp2_with fail
      refine (HX.out).mono ?_
      rintro e w' ⟨rfl, rfl⟩
      go_wp2_with fail
      refine (HY.out).mono ?_
      rintro e w' ⟨rfl, rfl⟩
      go_wp2_with fail
      refine (HZ.out _).mono ?_
      rintro e w' ⟨rfl, rfl⟩
      go_wp2_with fail
      refine (HL.out _).mono ?_
      rintro e w' ⟨rfl, hkp⟩
      go_wp2_with fail
      go_ret
      exact ⟨rfl, HB.out.trans (hkp.below (HB.out.size) (fun _ _ h => h))⟩

end Go.Proofs.Ytjakpmmjlmiekaa
