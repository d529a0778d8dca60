/- The walk of the law NetOrder: it returns true, and writes nothing that was there. -/
import Derived.Test.YtgphlopbbmjdhaaKOrder
namespace Go.Proofs.Ytgphlopbbmjdhaa
open Go.RowKit Go.Conc
set_option linter.unusedVariables false
set_option linter.unusedSimpArgs false

set_option maxHeartbeats 1000000 in
set_option maxRecDepth 100000 in
theorem ordered_no (n : Int) (a : Option Addr) (len cap : Nat) (inst : Int) (up cuts : Bool) (w : World) (h : ¬ (1 ≤ n ∧ n ≤ 8 ∧ 1 ≤ inst ∧ inst ≤ n)) :
    Calls Try.prog 20 #[.int .i64 n, .slice a len cap, .int .i64 inst, .bool up, .bool cuts] w fun e w' => e = .returned (.bool true) ∧ Below w.heap.size w w' := by
  have HL := Lib.hid lives_yes
  by_cases hn : 1 ≤ n ∧ n ≤ 8
  · obtain ⟨m, rfl⟩ : ∃ m : Nat, n = m := ⟨n.toNat, by omega⟩
    have HN := Lib.hid (fun w => new_yes m w (by omega) (by omega))
    rcases (by omega : inst < 1 ∨ (1 ≤ inst ∧ (m : Int) < inst)) with h1 | ⟨h1, h2⟩
    all_goals
      clear h
      go_enter Try.func20, Try.ntmps20
      go_wp2_with fail
      refine (HN.out _).mono ?_
      rintro e w1 ⟨L, rfl, hn, hN, hK, hB⟩
      have K1 := Lib.hid hK
      clear hn hN hK hB
      go_wp2_with fail
      refine (HL.out _).mono ?_
      rintro e w' ⟨rfl, hkp⟩
      go_wp2_with fail
      go_ret
      exact ⟨rfl, keep0_below (keep0_below (Below.refl _ _) K1.out) hkp⟩
  · have HN := Lib.hid (fun w => new_no n w hn)
    clear h hn
    go_enter Try.func20, Try.ntmps20
    go_wp2_with fail
    refine (HN.out _).mono ?_
    rintro e w1 ⟨rfl, rfl⟩
    go_wp2_with fail
    refine (HL.out _).mono ?_
    rintro e w' ⟨rfl, hkp⟩
    go_wp2_with fail
    go_ret
    exact ⟨rfl, keep0_below (Below.refl _ _) hkp⟩

theorem ordered_any (n : Int) (a : Option Addr) (len cap : Nat) (ops : Nat → OpV) (inst : Int) (up cuts : Bool) (w : World) (hm : len ≤ 9223372036854775807) (ha : ArgOps w a len ops) :
    Calls Try.prog 20 #[.int .i64 n, .slice a len cap, .int .i64 inst, .bool up, .bool cuts] w fun e w' => e = .returned (.bool true) ∧ Below w.heap.size w w' := by
  by_cases h : 1 ≤ n ∧ n ≤ 8 ∧ 1 ≤ inst ∧ inst ≤ n
  · obtain ⟨m, rfl⟩ : ∃ m : Nat, n = m := ⟨n.toNat, by omega⟩
    exact ordered_yes m a len cap ops inst up cuts w (by omega) (by omega) (by omega) (by omega) hm ha
  · exact ordered_no n a len cap inst up cuts w h

theorem ArgOps.below {w wr : World} {a : Option Addr} {len : Nat} {ops : Nat → OpV} (h : ArgOps w a len ops) (hb : Below w.heap.size w wr) : ArgOps wr a len ops := by
  rcases h with h | ⟨b, off, rfl, hc⟩
  · exact .inl h
  · exact .inr ⟨b, off, rfl, fun j hj => (hc j hj).below hb⟩

set_option maxHeartbeats 1000000 in
set_option maxRecDepth 100000 in
theorem netOrder_walk (n : Int) (a : Option Addr) (len cap : Nat) (ops : Nat → OpV) (inst : Int) (w : World) (hm : len ≤ 9223372036854775807) (ha : ArgOps w a len ops) :
    Calls Try.prog 5 #[.int .i64 n, .slice a len cap, .int .i64 inst] w fun e w' => e = .returned (.bool true) ∧ Below w.heap.size w w' := by
  have HA := Lib.hid ha
  have H1 := Lib.hid (ordered_any n a len cap ops inst true false w hm ha)
  have H2 := Lib.hid (fun w ha => ordered_any n a len cap ops inst false false w hm ha)
  clear ha
  go_enter Try.func5, Try.ntmps5
  go_wp2_with fail
  refine (H1.out).mono ?_
  rintro e w1 ⟨rfl, hb⟩
  have B1 := Lib.hid hb
  clear hb
  go_wp2_with fail
  refine (H2.out _ (HA.out.below B1.out)).mono ?_
  rintro e w2 ⟨rfl, hb⟩
  have B2 := Lib.hid hb
  clear hb
  go_wp2_with fail
  go_ret
  exact ⟨rfl, B1.out.trans (B2.out.mono B1.out.size)⟩

end Go.Proofs.Ytgphlopbbmjdhaa
