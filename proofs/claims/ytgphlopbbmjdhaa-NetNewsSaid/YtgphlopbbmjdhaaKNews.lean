/- The walk of the law NetNews. -/
import Derived.Test.YtgphlopbbmjdhaaRefRow
import Derived.Test.YtgphlopbbmjdhaaKFull
import Derived.Test.YtgphlopbbmjdhaaCut
namespace Go.Proofs.Ytgphlopbbmjdhaa
open Go.RowKit Go.Conc
set_option linter.unusedVariables false
set_option linter.unusedSimpArgs false

theorem len_nil0 (w : World) : Calls Try.prog 12 #[.pointer none, .int .i64 0, .int .i64 1] w fun e w' => e = .returned (.int .i64 0) ∧ w = w' := len_nil 0 1 w

set_option maxHeartbeats 2000000 in
set_option maxRecDepth 100000 in
theorem netNews_walk (n f t : Int) (w : World) :
    Calls Try.prog 7 #[.int .i64 n, .int .i64 f, .int .i64 t] w fun e w' => e = .returned (.bool true) ∧ Below w.heap.size w w' := by
  have HL := Lib.hid lives_yes
  have HNo := Lib.hid (fun h w => new_no n w h)
  have HYes := Lib.hid new_yes
  go_enter Try.func7, Try.ntmps7
  go_wp2_with fail
  by_cases hn : 1 ≤ n ∧ n ≤ 8
  · obtain ⟨m, rfl⟩ : ∃ m : Nat, n = m := ⟨n.toNat, by omega⟩
    refine (HYes.out m _ (by omega) (by omega)).mono ?_
    rintro e w1 ⟨L, rfl, hm, hN, hK, hB⟩
    have B1 : Hid (Below w.heap.size w w1) := keep0_below (Below.refl _ _) hK
    have N1 := Lib.hid hN
    have HB := Lib.hid hB
    have NN := Lib.hid hm
    clear hK hN hB hm HNo
    go_wp2_with fail
    refine (take_nil _ _ _).mono ?_
    rintro e w2 ⟨rfl, hk⟩
    have N2 := Lib.hid (N1.out.keep (hk.alloc (.cells #[.int .i64 0, .int .i64 0, .int .i64 0, .int .i64 0, .bool false, .int .u64 0, .slice none 0 0, .slice none 0 0, .string ⟨#[]⟩] 33)) (fun _ _ h => h))
    have B2 := Lib.hid (keep0_below B1.out (hk.alloc (.cells #[.int .i64 0, .int .i64 0, .int .i64 0, .int .i64 0, .bool false, .int .u64 0, .slice none 0 0, .slice none 0 0, .string ⟨#[]⟩] 33)))
    clear hk
    go_wp2_with fail
    refine (same_yes 0 0 0 0 0 false ⟨#[]⟩ none none none none 0 0 0 0 0 0 [] [] _ (.inl ⟨rfl, rfl, rfl, rfl⟩) (.inl ⟨rfl, rfl, rfl, rfl⟩) (.inl ⟨rfl, rfl, rfl, rfl⟩) (.inl ⟨rfl, rfl, rfl, rfl⟩) (by omega) (by omega)).mono ?_
    rintro e w3 ⟨rfl, hk⟩
    have N3 := Lib.hid (N2.out.keep (hk) (fun _ _ h => h))
    have B3 := Lib.hid (keep0_below B2.out (hk))
    clear hk
    go_wp2_with fail
    refine (send_nil _ _ (plain 0 0 ⟨#[]⟩) none none 0 0 0 0 _).mono ?_
    rintro e w4 ⟨rfl, hk⟩
    have N4 := Lib.hid (N3.out.keep (hk) (fun _ _ h => h))
    have B4 := Lib.hid (keep0_below B3.out (hk))
    clear hk
    go_wp2_with fail
    refine (len_nil _ _ _).mono ?_
    rintro e w' ⟨rfl, rfl⟩
    go_wp2_with fail
    refine (sum_nil _).mono ?_
    rintro e w' ⟨rfl, rfl⟩
    go_wp2_with fail
    refine (cut_nil _ _ (by decide)).mono ?_
    rintro e w5 ⟨rfl, hk⟩
    have N5 := Lib.hid (N4.out.keep (hk) (fun _ _ h => h))
    have B5 := Lib.hid (keep0_below B4.out (hk))
    clear hk
    go_wp2_with fail
    refine (peek_nil _ _ _).mono ?_
    rintro e w6 ⟨rfl, hk⟩
    have N6 := Lib.hid (N5.out.keep (hk) (fun _ _ h => h))
    have B6 := Lib.hid (keep0_below B5.out (hk))
    clear hk
    go_wp2_with fail
    refine (sum_any L _ _ N6.out).mono ?_
    rintro e w7 ⟨rfl, d, hd⟩
    have N7 : Hid (NetAt w7 L (fun _ => [])) := by subst hd; exact N6.out.keep ((Keep.refl (fun _ => False) _).drewN d) (fun _ _ h => h)
    have B7 : Hid (Below w.heap.size w w7) := by subst hd; exact keep0_below B6.out ((Keep.refl (fun _ => False) _).drewN d)
    clear hd
    rw [sumTo_zero]
    have e0 : ((0 : Nat) : Int) = 0 := rfl
    rw [e0]
    go_wp2_with fail
    rcases hr : rowIx L.n f t with _ | i
    · refine (send_plain_none L _ _ _ _ _ _ _ N7.out hr).mono ?_
      rintro e w8 ⟨rfl, hk⟩
      have B8 := Lib.hid (keep0_below B7.out hk)
      have R := Lib.hid hr
      clear hk hr
      go_wp2_with fail
      refine (refRow_any m none 0 0 f t _).mono ?_
      rintro e w9 ⟨rfl, hk⟩
      rw [← NN.out, R.out]
      have B9 := Lib.hid (keep0_below B8.out hk)
      clear hk
      go_wp2_with fail
      refine (HL.out _).mono ?_
      rintro e w' ⟨rfl, hkp⟩
      go_wp2_with fail
      go_ret
      exact ⟨rfl, keep0_below B9.out hkp⟩
    · have hc : w.heap.size ≤ L.c i := HB.out _ (.inr (.inr (.inr ⟨i, rowIx_lt hr, rfl⟩)))
      refine (send_plain L _ _ _ i _ _ _ _ N7.out hr (by simp)).mono ?_
      rintro e w8 ⟨rfl, x, _, _, _, _, hk⟩
      have B8 := Lib.hid (keep_below B7.out hk hc)
      have R := Lib.hid hr
      clear hk hr
      go_wp2_with fail
      refine (refRow_any m none 0 0 f t _).mono ?_
      rintro e w9 ⟨rfl, hk⟩
      rw [← NN.out, R.out]
      have B9 := Lib.hid (keep0_below B8.out hk)
      clear hk
      go_wp2_with fail
      refine (HL.out _).mono ?_
      rintro e w' ⟨rfl, hkp⟩
      go_wp2_with fail
      go_ret
      exact ⟨rfl, keep0_below B9.out hkp⟩
  · refine (HNo.out hn _).mono ?_
    rintro e w1 ⟨rfl, rfl⟩
    have B1 : Hid (Below w.heap.size w w) := Below.refl _ _
    go_wp2_with fail
    refine (take_nil _ _ _).mono ?_
    rintro e w2 ⟨rfl, hk⟩
    have B2 := Lib.hid (keep0_below B1.out (hk.alloc (.cells #[.int .i64 0, .int .i64 0, .int .i64 0, .int .i64 0, .bool false, .int .u64 0, .slice none 0 0, .slice none 0 0, .string ⟨#[]⟩] 33)))
    clear hk
    go_wp2_with fail
    refine (same_yes 0 0 0 0 0 false ⟨#[]⟩ none none none none 0 0 0 0 0 0 [] [] _ (.inl ⟨rfl, rfl, rfl, rfl⟩) (.inl ⟨rfl, rfl, rfl, rfl⟩) (.inl ⟨rfl, rfl, rfl, rfl⟩) (.inl ⟨rfl, rfl, rfl, rfl⟩) (by omega) (by omega)).mono ?_
    rintro e w3 ⟨rfl, hk⟩
    have B3 := Lib.hid (keep0_below B2.out (hk))
    clear hk
    go_wp2_with fail
    refine (send_nil _ _ (plain 0 0 ⟨#[]⟩) none none 0 0 0 0 _).mono ?_
    rintro e w4 ⟨rfl, hk⟩
    have B4 := Lib.hid (keep0_below B3.out (hk))
    clear hk
    go_wp2_with fail
    refine (len_nil _ _ _).mono ?_
    rintro e w' ⟨rfl, rfl⟩
    go_wp2_with fail
    refine (sum_nil _).mono ?_
    rintro e w' ⟨rfl, rfl⟩
    go_wp2_with fail
    refine (cut_nil _ _ (by decide)).mono ?_
    rintro e w5 ⟨rfl, hk⟩
    have B5 := Lib.hid (keep0_below B4.out (hk))
    clear hk
    go_wp2_with fail
    refine (peek_nil _ _ _).mono ?_
    rintro e w6 ⟨rfl, hk⟩
    have B6 := Lib.hid (keep0_below B5.out (hk))
    clear hk
    go_wp2_with fail
    all_goals
      refine (HL.out _).mono ?_
      rintro e w' ⟨rfl, hkp⟩
      go_wp2_with fail
      go_ret
      exact ⟨rfl, keep0_below B6.out hkp⟩

end Go.Proofs.Ytgphlopbbmjdhaa
