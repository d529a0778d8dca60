/- The clock of the layer lsn: New, See, Tick and Now, of a clock that there is and of a nil one. -/
import Derived.Test.YtjakpmmjlmiekaaFns
import Derived.Test.YtjakpmmjlmiekaaHeap
import Derived.BigQuiet
import Derived.Deep.QuietTactic
import Derived.Deep.RegionWith
import Derived.StillTailTactics
namespace Go.Proofs.Ytjakpmmjlmiekaa
open Go.RowKit
set_option linter.unusedVariables false
set_option linter.unusedSimpArgs false

/-- A callee that leaves the world as it was, met in a region that draws its order. -/
theorem quiet_same {P : Program} {f : FuncId} {args : Array Value} {w : World} {n : Nat} {v : Value}
    (h : Calls P f args (w.drewN n) fun e w' => e = .returned v ∧ w.drewN n = w') : Calls P f args (w.drewN n) fun e w'' => e = .returned v ∧ ∃ m, w'' = w.drewN m :=
  h.mono fun _ _ ⟨he, hm⟩ => ⟨he, n, hm.symm⟩

/-- At block b lies a clock of instance i with count n. -/
def Clk (w : World) (b : Nat) (i n : Int) : Prop := Two w b 51 (.int .i64 i) (.int .u64 n)

set_option maxHeartbeats 400000 in
theorem new_yes (i : Int) (w : World) (h0 : 0 ≤ i) (h1 : i < 8) :
    Calls Try.prog 16 #[.int .i64 i] w fun e w' => e = .returned (.tuple #[.pointer (some ⟨w.heap.size, 0, none⟩), .int .i64 0]) ∧ Clk w' w.heap.size i 0 ∧ Keep (fun _ => False) w w' := by
  have hc := place_any i w
  rw [show placeB i = true from by simp [placeB]; omega] at hc
  have HC := Lib.hid hc
  clear hc
  go_enter Try.func16, Try.ntmps16
  go_wp2_with (go_at_call 23; refine (HC.out).mono ?_; rintro e w' ⟨rfl, rfl⟩)
  go_ret2
  exact ⟨rfl, Two.new _ _ _ _, (Keep.refl _ _).alloc _⟩

set_option maxHeartbeats 400000 in
theorem new_no (i : Int) (w : World) (h : ¬ (0 ≤ i ∧ i < 8)) :
    Calls Try.prog 16 #[.int .i64 i] w fun e w' => e = .returned (.tuple #[.pointer none, .int .i64 1]) ∧ w = w' := by
  have hc := place_any i w
  rw [show placeB i = false from by simp [placeB]; omega] at hc
  have HC := Lib.hid hc
  clear hc
  go_enter Try.func16, Try.ntmps16
  go_wp2_with (go_at_call 23; refine (HC.out).mono ?_; rintro e w' ⟨rfl, rfl⟩)
  go_ret2
  exact ⟨rfl, rfl⟩

set_option maxHeartbeats 400000 in
theorem now_nil (w : World) :
    Calls Try.prog 19 #[.pointer none] w fun e w' => e = .returned (.int .u64 0) ∧ w = w' := by
  go_enter Try.func19, Try.ntmps19
  go_wp2
  go_ret
  exact ⟨rfl, rfl⟩

set_option maxHeartbeats 400000 in
theorem now_any (b : Nat) (i n : Int) (w : World) (hc : Clk w b i n) :
    Calls Try.prog 19 #[.pointer (some ⟨b, 0, none⟩)] w fun e w' => e = .returned (.int .u64 n) ∧ w = w' := by
  have g1 := hc.snd
  clear hc
  go_enter Try.func19, Try.ntmps19
  go_wp2
  go_ret
  exact ⟨rfl, rfl⟩

set_option maxHeartbeats 400000 in
theorem see_nil (x : Int) (w : World) :
    Calls Try.prog 18 #[.pointer none, .int .u64 x] w fun e w' => e = .returned (.tuple #[]) ∧ w = w' := by
  go_enter Try.func18, Try.ntmps18
  go_wp2
  go_end0
  exact ⟨rfl, rfl⟩

set_option maxHeartbeats 400000 in
theorem tick_nil (w : World) :
    Calls Try.prog 17 #[.pointer none] w fun e w' => e = .returned (.tuple #[.int .u64 0, .int .i64 1]) ∧ w = w' := by
  go_enter Try.func17, Try.ntmps17
  go_wp2
  go_ret2
  exact ⟨rfl, rfl⟩

set_option maxHeartbeats 400000 in
theorem tick_ok (b : Nat) (i n : Int) (w : World) (hc : Clk w b i n) (i0 : 0 ≤ i) (i1 : i < 8) (h0 : 0 ≤ n) (h1 : n < 72057594037927936) :
    Calls Try.prog 17 #[.pointer (some ⟨b, 0, none⟩)] w fun e w' => e = .returned (.tuple #[.int .u64 ((n + 1) * 16 + i), .int .i64 0]) ∧ Clk w' b i (n + 1) ∧ Keep (fun k => k = b) w w' := by
  have g0 := hc.fst
  have g1 := hc.snd
  have g2 := hc.free 1
  have HC := Lib.hid hc
  clear hc
  have hs : IntKind.u64.wrap (n + 1) = n + 1 := u64_wraps _ (by omega) (by omega)
  have hm := fun w => make_any (n + 1) i w (by omega) (by omega)
  rw [show mkL (n + 1) i = (n + 1) * 16 + i from by unfold mkL; rw [if_pos ⟨i0, i1, by omega, by omega⟩],
    show mkE (n + 1) i = 0 from by unfold mkE; rw [if_pos ⟨i0, i1⟩, if_pos ⟨by omega, by omega⟩]] at hm
  have HM := Lib.hid hm
  clear hm
  go_enter Try.func17, Try.ntmps17
  go_wp2_with fail
  go_quiet ((go_at_call 9; exact quiet_same (HM.out _)))
  go_wp2_with fail
  go_ret2
  exact ⟨rfl, (HC.out.drewN _).setSnd _, Keep.setCell ((Keep.refl (fun k => k = b) _).drewN _) (p := ⟨b, 1, none⟩) (.inl rfl) _⟩

set_option maxHeartbeats 400000 in
theorem tick_over (b : Nat) (i n : Int) (w : World) (hc : Clk w b i n) (i0 : 0 ≤ i) (i1 : i < 8) (h0 : 72057594037927936 ≤ n) (h1 : n < 18446744073709551615) :
    Calls Try.prog 17 #[.pointer (some ⟨b, 0, none⟩)] w fun e w' => e = .returned (.tuple #[.int .u64 0, .int .i64 11]) ∧ Clk w' b i n ∧ Keep (fun k => k = b) w w' := by
  have g0 := hc.fst
  have g1 := hc.snd
  have HC := Lib.hid hc
  clear hc
  have hs : IntKind.u64.wrap (n + 1) = n + 1 := u64_wraps _ (by omega) (by omega)
  have hm := fun w => make_any (n + 1) i w (by omega) (by omega)
  rw [show mkL (n + 1) i = 0 from by unfold mkL; rw [if_neg (by omega)],
    show mkE (n + 1) i = 11 from by unfold mkE; rw [if_pos ⟨i0, i1⟩, if_neg (by omega)]] at hm
  have HM := Lib.hid hm
  clear hm
  go_enter Try.func17, Try.ntmps17
  go_wp2_with fail
  go_quiet ((go_at_call 9; exact quiet_same (HM.out _)))
  go_wp2_with fail
  go_ret2
  exact ⟨rfl, HC.out.drewN _, (Keep.refl _ _).drewN _⟩

set_option maxHeartbeats 400000 in
theorem see_no (b : Nat) (x i n : Int) (w : World) (hc : Clk w b i n) (x0 : 0 ≤ x) (x1 : x < 18446744073709551616) (hv : validB x = false) :
    Calls Try.prog 18 #[.pointer (some ⟨b, 0, none⟩), .int .u64 x] w fun e w' => e = .returned (.tuple #[]) ∧ Clk w' b i n ∧ Keep (fun k => k = b) w w' := by
  have HV : Hid (∀ w, Calls Try.prog 11 #[.int .u64 x] w fun e w' => e = .returned (.bool (validB x)) ∧ w = w') := fun w => valid_any x w x0 x1
  rw [hv] at HV
  have HC := Lib.hid hc
  clear hc hv
  go_enter Try.func18, Try.ntmps18
  go_wp2_with (go_at_call 11; refine (HV.out _).mono ?_; rintro e w' ⟨rfl, rfl⟩)
  go_end0
  exact ⟨rfl, HC.out, Keep.refl _ _⟩

def maxI (a b : Int) : Int := if a < b then b else a

set_option maxHeartbeats 400000 in
theorem see_yes (b : Nat) (x i n : Int) (w : World) (hc : Clk w b i n) (x0 : 0 ≤ x) (x1 : x < 18446744073709551616) (hv : validB x = true) :
    Calls Try.prog 18 #[.pointer (some ⟨b, 0, none⟩), .int .u64 x] w fun e w' => e = .returned (.tuple #[]) ∧ Clk w' b i (seeN n x) ∧ Keep (fun k => k = b) w w' := by
  have HV : Hid (∀ w, Calls Try.prog 11 #[.int .u64 x] w fun e w' => e = .returned (.bool (validB x)) ∧ w = w') := fun w => valid_any x w x0 x1
  rw [hv] at HV
  have g1 := hc.snd
  have g2 := hc.free 1
  have HC := Lib.hid hc
  have hv' := Lib.hid hv
  clear hc hv
  by_cases hlt : n < x / 16
  · have hs : seeN n x = x / 16 := by unfold seeN; rw [if_pos ⟨hv'.out, hlt⟩]
    have HS := Lib.hid hs
    clear hs
    go_enter Try.func18, Try.ntmps18
    go_wp2_with (go_at_call 11; refine (HV.out _).mono ?_; rintro e w' ⟨rfl, rfl⟩)
    go_region_with ((go_at_call 13; refine (count_any _ _ x0 x1).mono ?_; rintro e w' ⟨rfl, rfl⟩))
    all_goals
      go_wp2_with fail
      go_end0
      exact ⟨rfl, by rw [HS.out]; exact HC.out.setSnd _, (Keep.setCell (Keep.refl (fun k => k = b) _) (p := ⟨b, 1, none⟩) (.inl rfl) _).drew⟩
  · have hs : seeN n x = n := by unfold seeN; rw [if_neg (fun h => hlt h.2)]
    have HS := Lib.hid hs
    clear hs
    go_enter Try.func18, Try.ntmps18
    go_wp2_with (go_at_call 11; refine (HV.out _).mono ?_; rintro e w' ⟨rfl, rfl⟩)
    go_region_with ((go_at_call 13; refine (count_any _ _ x0 x1).mono ?_; rintro e w' ⟨rfl, rfl⟩))
    all_goals
      go_wp2_with fail
      go_end0
      exact ⟨rfl, by rw [HS.out]; exact HC.out.setSnd _, (Keep.setCell (Keep.refl (fun k => k = b) _) (p := ⟨b, 1, none⟩) (.inl rfl) _).drew⟩

theorem see_any (b : Nat) (x i n : Int) (w : World) (hc : Clk w b i n) (x0 : 0 ≤ x) (x1 : x < 18446744073709551616) :
    Calls Try.prog 18 #[.pointer (some ⟨b, 0, none⟩), .int .u64 x] w fun e w' => e = .returned (.tuple #[]) ∧ Clk w' b i (seeN n x) ∧ Keep (fun k => k = b) w w' := by
  cases hv : validB x
  · have hs : seeN n x = n := by unfold seeN; rw [if_neg (by simp [hv])]
    rw [hs]; exact see_no b x i n w hc x0 x1 hv
  · exact see_yes b x i n w hc x0 x1 hv

theorem seeN_bd (n x : Int) (h : 0 ≤ n) (h' : n ≤ 72057594037927936) : n ≤ seeN n x ∧ seeN n x ≤ 72057594037927936 := by
  unfold seeN
  split
  · rename_i g; obtain ⟨g1, g2⟩ := g; simp [validB] at g1; omega
  · omega

set_option maxHeartbeats 400000 in
theorem lives_yes (w : World) :
    Calls Try.prog 15 #[] w fun e w' => e = .returned (.bool true) ∧ Keep (fun _ => False) w w' := by
  have HM : Hid (∀ w, Calls Try.prog 9 #[.int .u64 3, .int .i64 2] w fun e w' => e = .returned (.tuple #[.int .u64 50, .int .i64 0]) ∧ w = w') := fun w => make_any 3 2 w (by omega) (by omega)
  have HN : Hid (∀ w, Calls Try.prog 16 #[.int .i64 1] w fun e w' => e = .returned (.tuple #[.pointer (some ⟨w.heap.size, 0, none⟩), .int .i64 0]) ∧ Clk w' w.heap.size 1 0 ∧ Keep (fun _ => False) w w') := fun w => new_yes 1 w (by omega) (by omega)
  have HS : Hid (∀ b w, Clk w b 1 0 → Calls Try.prog 18 #[.pointer (some ⟨b, 0, none⟩), .int .u64 50] w fun e w' => e = .returned (.tuple #[]) ∧ Clk w' b 1 3 ∧ Keep (fun k => k = b) w w') := fun b w h => see_any b 50 1 0 w h (by omega) (by omega)
  have HT : Hid (∀ b w, Clk w b 1 3 → Calls Try.prog 17 #[.pointer (some ⟨b, 0, none⟩)] w fun e w' => e = .returned (.tuple #[.int .u64 65, .int .i64 0]) ∧ Clk w' b 1 4 ∧ Keep (fun k => k = b) w w') := fun b w h => tick_ok b 1 3 w h (by omega) (by omega) (by omega) (by omega)
  go_enter Try.func15, Try.ntmps15
  go_wp2_with fail
  refine (HM.out _).mono ?_
  rintro e w' ⟨rfl, rfl⟩
  go_wp2_with fail
  refine (HN.out _).mono ?_
  rintro e w1 ⟨rfl, hc1, hk1⟩
  have C1 := Lib.hid hc1
  have K1 := Lib.hid hk1
  clear hc1 hk1
  go_wp2_with fail
  refine (HS.out _ _ C1.out).mono ?_
  rintro e w2 ⟨rfl, hc2, hk2⟩
  have C2 := Lib.hid hc2
  have K2 := Lib.hid hk2
  clear hc2 hk2
  go_wp2_with fail
  refine (HT.out _ _ C2.out).mono ?_
  rintro e w3 ⟨rfl, hc3, hk3⟩
  have C3 := Lib.hid hc3
  have K3 := Lib.hid hk3
  clear hc3 hk3
  go_wp2_with fail
  go_ret
  refine ⟨rfl, ?_⟩
  have b1 := C1.out.lt
  exact (K1.out.trans K2.out (fun i h => .inr (by omega))).trans K3.out (fun i h => .inr (by omega))

end Go.Proofs.Ytjakpmmjlmiekaa
