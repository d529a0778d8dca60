/- The walk of the law LsnClocks: it returns true, and writes nothing that was there. -/
import Derived.Test.YtjakpmmjlmiekaaArgs
namespace Go.Proofs.Ytjakpmmjlmiekaa
open Go.RowKit
set_option linter.unusedVariables false
set_option linter.unusedSimpArgs false

set_option maxHeartbeats 1000000 in
set_option maxRecDepth 100000 in
theorem lsnClocks_no (i : Int) (a : Option Addr) (len cap : Nat) (w : World) (hi : ¬ (0 ≤ i ∧ i < 8)) :
    Calls Try.prog 6 #[.int .i64 i, .slice a len cap] w fun e w' => e = .returned (.bool true) ∧ Below w.heap.size w w' := by
  have HL := Lib.hid lives_yes
  have HS := Lib.hid see_nil
  have HT := Lib.hid tick_nil
  have HN := Lib.hid now_nil
  have HW := Lib.hid (fun w => new_no i w hi)
  rcases (by omega : i < 0 ∨ (0 ≤ i ∧ 7 < i)) with hh | ⟨h1, h2⟩
  all_goals
    go_enter Try.func6, Try.ntmps6
    go_wp2_with fail
    refine (HS.out _ _).mono ?_
    rintro e w' ⟨rfl, rfl⟩
    go_wp2_with fail
    refine (HT.out _).mono ?_
    rintro e w' ⟨rfl, rfl⟩
    go_wp2_with fail
    refine (HN.out _).mono ?_
    rintro e w' ⟨rfl, rfl⟩
    go_wp2_with fail
    refine (HW.out _).mono ?_
    rintro e w' ⟨rfl, rfl⟩
    go_wp2_with fail
    refine (HL.out _).mono ?_
    rintro e w' ⟨rfl, hkp⟩
    go_wp2_with fail
    go_ret
    exact ⟨rfl, hkp.below (Nat.le_refl _) (fun _ _ h => h)⟩

set_option maxHeartbeats 2000000 in
set_option maxRecDepth 100000 in
theorem lsnClocks_yes (i : Int) (a : Option Addr) (len cap : Nat) (zs : List Int) (w : World) (i0 : 0 ≤ i) (i1 : i < 8)
    (ha : ArgRow w a len zs) (hm : len ≤ 9223372036854775807) (hz : ∀ j, 0 ≤ zs.getD j 0 ∧ zs.getD j 0 < 18446744073709551616) :
    Calls Try.prog 6 #[.int .i64 i, .slice a len cap] w fun e w' => e = .returned (.bool true) ∧ Below w.heap.size w w' := by
  have HL := Lib.hid lives_yes
  have HS := Lib.hid see_nil
  have HT := Lib.hid tick_nil
  have HN := Lib.hid now_nil
  have HW := Lib.hid (fun w => new_yes i w i0 i1)
  have HA := Lib.hid ha
  have HZ := Lib.hid hz
  clear ha hz
  go_enter Try.func6, Try.ntmps6
  go_wp2_with fail
  refine (HS.out _ _).mono ?_
  rintro e w' ⟨rfl, rfl⟩
  go_wp2_with fail
  refine (HT.out _).mono ?_
  rintro e w' ⟨rfl, rfl⟩
  go_wp2_with fail
  refine (HN.out _).mono ?_
  rintro e w' ⟨rfl, rfl⟩
  go_wp2_with fail
  refine (HW.out _).mono ?_
  rintro e w1 ⟨rfl, hc, hk⟩
  have HC1 := Lib.hid hc
  have HB1 := Lib.hid (hk.below (B := w.heap.size) (Nat.le_refl _) (fun _ _ h => h))
  clear hc hk
  go_wp2_with fail
  go_loopw [10, 11, 12, 13, 14, 15] (fun n j _ _ _ _ wr => ∃ (k : Nat) (m : Int), k ≤ len ∧ k ≤ 100 ∧ j = .int .i64 k ∧ n = .int .u64 m ∧ 0 ≤ m ∧ m ≤ 72057594037927936 ∧ Clk wr w.heap.size i m ∧ Below w.heap.size w wr) (fun _ j _ _ _ _ _ => len - (intOf j).toNat)
  case atStart => exact ⟨0, 0, Nat.zero_le _, Nat.zero_le _, rfl, rfl, by omega, by omega, HC1.out, HB1.out⟩
  case round =>
    obtain ⟨k, m, hk, hk1, rfl, rfl, m0, m1, hc, hb⟩ := hrel
    rcases (by omega : (k < len ∧ k < 100) ∨ (k < len ∧ 100 ≤ k) ∨ len ≤ k) with ⟨hlt, hlt1⟩ | ⟨hlt, hge⟩ | hge
    · obtain ⟨b, off, rfl, hbw, hcell⟩ := HA.out.at hb hlt
      obtain ⟨z0, z1⟩ := HZ.out k
      have HC := Lib.hid hc
      have HB := Lib.hid hb
      clear hc hb
      generalize zs.getD k 0 = z at hcell z0 z1
      by_cases h3 : z % 3 = 0
      · have h3b : (z % 3 == 0) = true := by rw [beq_iff_eq]; exact h3
        clear h3
        rcases (by omega : m < 72057594037927936 ∨ m = 72057594037927936) with hlm | rfl
        · have HR := Lib.hid (fun w => refMake_any (m + 1) i w (by omega) (by omega))
          rw [show mkL (m + 1) i = (m + 1) * 16 + i from by unfold mkL; rw [if_pos ⟨i0, i1, by omega, by omega⟩],
            show mkE (m + 1) i = 0 from by unfold mkE; rw [if_pos ⟨i0, i1⟩, if_pos ⟨by omega, by omega⟩]] at HR
          go_wp2_with fail
          refine (tick_ok _ i m _ HC.out i0 i1 m0 hlm).mono ?_
          rintro e w2 ⟨rfl, hc2, hk2⟩
          have HC2 := Lib.hid hc2
          have HB2 := Lib.hid (HB.out.trans (hk2.below (B := w.heap.size) HB.out.size (fun k h e => by omega)))
          clear hc2 hk2
          go_wp2_with fail
          refine (HR.out _).mono ?_
          rintro e w' ⟨rfl, rfl⟩
          go_wp2_with fail
          refine (now_any _ i (m + 1) _ HC2.out).mono ?_
          rintro e w' ⟨rfl, rfl⟩
          go_wp2_with fail
          go_roundw
          case rel => exact ⟨k + 1, m + 1, by omega, by omega, by go_num, rfl, by omega, by omega, HC2.out, HB2.out⟩
          case measure => simp [intOf]; omega
        · have HR := Lib.hid (fun w => refMake_any (72057594037927936 + 1) i w (by omega) (by omega))
          rw [show mkL (72057594037927936 + 1) i = 0 from by unfold mkL; rw [if_neg (by omega)],
            show mkE (72057594037927936 + 1) i = 11 from by unfold mkE; rw [if_pos ⟨i0, i1⟩, if_neg (by omega)]] at HR
          go_wp2_with fail
          refine (tick_over _ i 72057594037927936 _ HC.out i0 i1 (by omega) (by omega)).mono ?_
          rintro e w2 ⟨rfl, hc2, hk2⟩
          have HC2 := Lib.hid hc2
          have HB2 := Lib.hid (HB.out.trans (hk2.below (B := w.heap.size) HB.out.size (fun k h e => by omega)))
          clear hc2 hk2
          go_wp2_with fail
          refine (HR.out _).mono ?_
          rintro e w' ⟨rfl, rfl⟩
          go_wp2_with fail
          refine (now_any _ i 72057594037927936 _ HC2.out).mono ?_
          rintro e w' ⟨rfl, rfl⟩
          go_wp2_with fail
          go_roundw
          case rel => exact ⟨k + 1, 72057594037927936, by omega, by omega, by go_num, rfl, by omega, by omega, HC2.out, HB2.out⟩
          case measure => simp [intOf]; omega
      · have h3b : (z % 3 == 0) = false := by rw [beq_eq_false_iff_ne]; exact h3
        clear h3
        have hsb := seeN_bd m z m0 m1
        obtain ⟨s0, s1⟩ := hsb
        go_wp2_with fail
        refine (see_any _ z i m _ HC.out z0 z1).mono ?_
        rintro e w2 ⟨rfl, hc2, hk2⟩
        have HC2 := Lib.hid hc2
        have HB2 := Lib.hid (HB.out.trans (hk2.below (B := w.heap.size) HB.out.size (fun k h e => by omega)))
        have hcell2 : w2.cell? ⟨b, off + k, none⟩ = some (.int .u64 z) := by
          rw [hk2.cell (p := ⟨b, off + k, none⟩) (World.block_lt_of_cell? _ _ hcell) (fun e => by simp only at e; omega)]
          exact hcell
        clear hc2 hk2
        go_wp2_with fail
        refine (refSee_any m z _ z0 z1).mono ?_
        rintro e w' ⟨rfl, rfl⟩
        go_wp2_with fail
        refine (now_any _ i _ _ HC2.out).mono ?_
        rintro e w' ⟨rfl, rfl⟩
        go_wp2_with fail
        go_roundw
        case rel => exact ⟨k + 1, seeN m z, by omega, by omega, by go_num, rfl, by omega, by omega, HC2.out, HB2.out⟩
        case measure => simp [intOf]; omega
    all_goals
      have HB := Lib.hid hb
      clear hb hc
      go_wp2_with fail
      refine (HL.out _).mono ?_
      rintro e w' ⟨rfl, hkp⟩
      go_wp2_with fail
      go_ret
      exact ⟨rfl, HB.out.trans (hkp.below HB.out.size (fun _ _ h => h))⟩

end Go.Proofs.Ytjakpmmjlmiekaa
