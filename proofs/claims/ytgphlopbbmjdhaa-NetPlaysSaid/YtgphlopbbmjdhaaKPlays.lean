/- The walk of the law NetPlays. -/
import Derived.Test.YtgphlopbbmjdhaaStep
import Derived.Test.YtgphlopbbmjdhaaStepPeek
import Derived.Test.YtgphlopbbmjdhaaAlike
namespace Go.Proofs.Ytgphlopbbmjdhaa
open Go.RowKit Go.Conc
set_option linter.unusedVariables false
set_option linter.unusedSimpArgs false

/-- Any step on both nets: they answer alike. -/
theorem step_any (w0 : World) (L : Lay) (q : Nat → List Qm) (ps : List Pc) (base' : Nat) (a : Option Addr) (len cap : Nat) (o : OpV) (w : World) (h : State w w0.heap.size L q ps) (hR : RefAt w base' a len cap (ps.map Prod.fst)) (hlow : Below w0.heap.size w0 w) (hab : ∀ b, L.blk b → w0.heap.size ≤ b) (hm : MsgOk w0 o.m) (hf : o.m.few = true) (hlen : len ≤ 100000) :
    Calls Try.prog 23 #[.pointer (some ⟨L.b, 0, none⟩), .agg #[.int .i64 L.n, .slice a len cap], .agg #[.int .i64 o.kind, .int .i64 o.frm, .int .i64 o.dest, .int .i64 o.n, .int .i64 o.m.kind, .int .i64 o.m.txn, .int .i64 o.m.page, .int .i64 o.m.dst, .bool o.m.fast, .int .u64 o.m.lsn, .slice o.m.wa o.m.wl o.m.wc, .slice o.m.pa o.m.pl o.m.pc, .string o.m.body]] w (StepPost w0 w L len) := by
  obtain ⟨kd, fr, de, nn, ms⟩ := o
  by_cases h0 : kd = 0 ∨ kd = 3
  · exact step_send w0 L q ps base' a len cap ⟨kd, fr, de, nn, ms⟩ w h hR hlow hab h0 hm hf hlen
  by_cases h1 : kd = 1
  · subst h1
    rcases hr : rowIx L.n fr de with _ | i
    · exact step_take_none w0 L q ps base' a len cap fr de nn ms w h hR hlow (by omega) (selP_none fun p hp hh => by
        obtain ⟨i, hi⟩ := h.valid p hp
        rw [hh.1, hh.2, hr] at hi
        simp at hi)
    · rcases hq : q i with _ | ⟨x, rest⟩
      · refine step_take_none w0 L q ps base' a len cap fr de nn ms w h hR hlow (by omega) ?_
        have hl := (h.rows fr de i hr).len
        rw [hq] at hl
        exact List.eq_nil_of_length_eq_zero (by simpa using hl.symm)
      · exact step_take_some w0 L q ps base' a len cap fr de nn ms w h hR hlow hab (by omega) i x rest hr hq
  by_cases h2 : kd = 2
  · subst h2
    exact step_cut w0 L q ps base' a len cap fr de nn ms w h hR hlow hab (by omega)
  · refine step_peek w0 L q ps base' a len cap kd fr de nn ms w h hR hlow hab (by omega) ?_ ?_ ?_ ?_ <;> (rw [beq_eq_false_iff_ne]; omega)

/-- The two nets behind a step. -/
def Played (w : World) (L : Lay) (db most : Nat) (wx : World) : Prop :=
  ∃ q ps a len cap b, State wx w.heap.size L q ps ∧ RefAt wx b a len cap (ps.map Prod.fst) ∧ len ≤ most ∧ Blk wx db 54 [.int .i64 L.n, .slice a len cap] ∧ Below w.heap.size w wx

theorem played {w w7 : World} {L : Lay} {db most : Nat} {q : Nat → List Qm} {ps : List Pc} {a : Option Addr} {len cap b : Nat} {u0 u1 : Value} (hS : State w7 w.heap.size L q ps) (hR : RefAt w7 b a len cap (ps.map Prod.fst)) (hl : len ≤ most) (hD : Blk w7 db 54 [u0, u1]) (hB : Below w.heap.size w w7) (h : w.heap.size ≤ db ∧ ¬ L.blk db) :
    Played w L db most ((w7.setCell ⟨db, 0, none⟩ (.int .i64 L.n)).setCell ⟨db, 1, none⟩ (.slice a len cap)) := by
  have BR := set_two hD (.int .i64 L.n) (.slice a len cap)
  exact ⟨q, ps, a, len, cap, b, hS.odd BR.2 (fun b hb e => by subst e; exact ⟨⟨_, _, hD, by decide, by decide⟩, h.2⟩), hR.keep BR.2 (fun j hj e => owns_ne hR.row hD (by decide) hj e), hl, BR.1, hB.trans (BR.2.below hB.size (fun b hb e => by have := h.1; omega))⟩

set_option maxHeartbeats 2000000 in
set_option maxRecDepth 100000 in
theorem netPlays_walk (n : Int) (a : Option Addr) (len cap : Nat) (ops : Nat → OpV) (w : World) (hm : len ≤ 9223372036854775807) (ha : ArgOps w a len ops) (hok : ∀ j, j < len → MsgOk w (ops j).m) :
    Calls Try.prog 8 #[.int .i64 n, .slice a len cap] w fun e w' => e = .returned (.bool true) ∧ Below w.heap.size w w' := by
  have HL := Lib.hid lives_yes
  have HA := Lib.hid ha
  have HK := Lib.hid hok
  clear ha hok
  go_enter Try.func8, Try.ntmps8
  go_wp2_with fail
  by_cases hn : 1 ≤ n ∧ n ≤ 8
  · obtain ⟨m, rfl⟩ : ∃ m : Nat, n = m := ⟨n.toNat, by omega⟩
    refine (new_yes m w (by omega) (by omega)).mono ?_
    rintro e w3 ⟨L, rfl, hn, hN, hK, hB⟩
    subst hn
    have B3 := Lib.hid (keep0_below (Below.refl _ _) hK)
    have HB : Hid (∀ k, L.blk k → w.heap.size ≤ k) := hB
    have N3 := Lib.hid hN
    have BD := new_one w3 54 [.int .i64 L.n, .slice none 0 0]
    have D4 := Lib.hid BD.1
    have B4 := Lib.hid (keep0_below B3.out BD.2)
    have S4 : Hid (State (w3.alloc (.cells #[.int .i64 L.n, .slice none 0 0] 54)) w.heap.size L (fun _ => []) []) := State.start _ (hN.keep BD.2 (fun _ _ h => h))
    have HDB : Hid (w.heap.size ≤ w3.heap.size ∧ ¬ L.blk w3.heap.size) := ⟨hK.size, fun h => by have := hN.blk_lt h; omega⟩
    clear hN hK hB BD N3 B3
    go_wp2_with fail
    generalize w3.alloc (.cells #[.int .i64 L.n, .slice none 0 0] 54) = w4 at D4 B4 S4 ⊢
    generalize w3.heap.size = db at D4 HDB ⊢
    go_loopw [8] (fun i wr => ∃ (k : Nat) (q : Nat → List Qm) (ps : List Pc) (a' : Option Addr) (len' cap' b' : Nat), k ≤ len ∧ k ≤ 80 ∧ i = .int .i64 k ∧ State wr w.heap.size L q ps ∧ RefAt wr b' a' len' cap' (ps.map Prod.fst) ∧ len' ≤ 260 * k ∧ Blk wr db 54 [.int .i64 L.n, .slice a' len' cap'] ∧ Below w.heap.size w wr) (fun i _ => len - (intOf i).toNat)
    case atStart => exact ⟨0, fun _ => [], [], none, 0, 0, 0, Nat.zero_le _, Nat.zero_le _, rfl, S4.out, ⟨rfl, World.ownsRow_nil _ _ _ _⟩, by omega, D4.out, B4.out⟩
    case round =>
      clear D4 B4 S4
      obtain ⟨k, q, ps, a', len', cap', b', hk, hk1, rfl, hS, hR, hl', hD, hB⟩ := hrel
      have S := Lib.hid hS
      have R := Lib.hid hR
      have D := Lib.hid hD
      have B := Lib.hid hB
      have LL := Lib.hid hl'
      clear hS hR hD hl'
      rcases (by omega : (k < len ∧ k < 80) ∨ (k < len ∧ 80 ≤ k) ∨ len ≤ k) with ⟨hlt, hlt1⟩ | ⟨hlt, hge⟩ | hge
      · obtain ⟨b, off, rfl, hcells⟩ := HA.out.at hB hlt
        have M := Lib.hid (HK.out k hlt)
        obtain ⟨⟨kd, fr, de, nn, ms⟩, hv⟩ : ∃ v, v = ops k := ⟨_, rfl⟩
        rw [← hv] at hcells M
        have hblt : b < w.heap.size := by
          obtain ⟨b', off', he, hO⟩ := HA.out.at (Below.refl _ _) hlt
          simp only [Option.some.injEq, Addr.mk.injEq, and_true] at he
          obtain ⟨rfl, rfl⟩ := he
          exact World.block_lt_of_cell? _ _ hO.c0
        have HBL := Lib.hid hblt
        clear hv hB hblt
        have O := Lib.hid hcells
        obtain ⟨c0, c1, c2, c3, c4, c5, c6, c7, c8, c9, c10, c11, c12⟩ := hcells
        simp only at c0 c1 c2 c3 c4 c5 c6 c7 c8 c9 c10 c11 c12 M
        go_wp2_with fail
        refine (small_any ms _).mono ?_
        rintro e w5 ⟨rfl, hkp⟩
        have S5 := Lib.hid (S.out.keep hkp (fun _ _ h => h))
        have R5 := Lib.hid (R.out.keep hkp (fun _ _ h => h))
        have D5 := Lib.hid (D.out.keep hkp (fun h => h))
        have B5 := Lib.hid (keep0_below B.out hkp)
        have O5 := O.out.below (hkp.below (Nat.le_refl _) (fun k hk e => e))
        clear c0 c1 c2 c3 c4 c5 c6 c7 c8 c9 c10 c11 c12 hkp S R D B
        obtain ⟨c0, c1, c2, c3, c4, c5, c6, c7, c8, c9, c10, c11, c12⟩ := O5
        simp only at c0 c1 c2 c3 c4 c5 c6 c7 c8 c9 c10 c11 c12
        cases hfew : ms.few
        · clear hfew c0 c1 c2 c3 c4 c5 c6 c7 c8 c9 c10 c11 c12
          go_wp2_with fail
          refine (HL.out _).mono ?_
          rintro e w' ⟨rfl, hkp⟩
          go_wp2_with fail
          go_ret
          exact ⟨rfl, keep0_below B5.out hkp⟩
        · have FEW := Lib.hid hfew
          clear hfew
          have x0 := D5.out.at (i := 0) rfl
          have x1 := D5.out.at (i := 1) rfl
          go_upto_region 11 with fail
          go_cut [9] (fun ok wx => ok = .bool true ∧ Played w L db (260 * (k + 1)) wx)
          case first =>
            have S6 : Hid (State w5.drew w.heap.size L q ps) := S5.out.keep ((Keep.refl (fun _ => False) w5).drew) (fun _ _ h => h)
            have R6 : Hid (RefAt w5.drew b' a' len' cap' (ps.map Prod.fst)) := R5.out.keep ((Keep.refl (fun _ => False) w5).drew) (fun _ _ h => h)
            have B6 : Hid (Below w.heap.size w w5.drew) := keep0_below B5.out ((Keep.refl (fun _ => False) w5).drew)
            go_region_with ((go_at_call 23; refine (step_any w L q ps b' a' len' cap' ⟨kd, fr, de, nn, ms⟩ _ S6.out R6.out B6.out HB.out M.out FEW.out (by have := LL.out; omega)).mono ?_; rintro e w7 ⟨q7, ps7, a7, len7, cap7, rfl, hS7, ⟨b7, hR7⟩, hl7, hB7, hsame⟩; have D7 : Blk w7 db 54 [.int .i64 L.n, .slice a' len' cap'] := hsame db _ D5.out; have x0' := D7.at (i := 0) rfl; have x1' := D7.at (i := 1) rfl; have xf' := D7.free))
            all_goals
              go_wp2_with fail
              go_meet
              exact ⟨rfl, played hS7 hR7 (by have := LL.out; omega) D7 hB7 HDB.out⟩
          case rest =>
          obtain ⟨rfl, q7, ps7, a7, len7, cap7, b7, hS8, hR8, hL7, hD8, hB8⟩ := hcut
          have S8 := Lib.hid hS8
          have R8 := Lib.hid hR8
          have L7 := Lib.hid hL7
          have D8 := Lib.hid hD8
          have B8 := Lib.hid hB8
          have q0 := D8.out.at (i := 0) rfl
          have q1 := D8.out.at (i := 1) rfl
          clear x0 x1 c0 c1 c2 c3 c4 c5 c6 c7 c8 c9 c10 c11 c12 S5 R5 D5 B5 hS8 hR8 hL7 hD8 hB8
          go_wp2_with fail
          refine (alike_yes L q7 ps7 _ b7 a7 len7 cap7 _ S8.out R8.out (by have := L7.out; omega)).mono ?_
          rintro e w9 ⟨rfl, hk9⟩
          have S9 := Lib.hid (S8.out.keep hk9 (fun _ _ h => h))
          have R9 := Lib.hid (R8.out.keep hk9 (fun _ _ h => h))
          have B9 := Lib.hid (keep0_below B8.out hk9)
          have D9 := Lib.hid (D8.out.keep hk9 (fun h => h))
          clear hk9 q0 q1
          go_wp2_with fail
          go_roundw
          case rel => exact ⟨k + 1, q7, ps7, a7, len7, cap7, b7, by omega, by omega, by go_num, S9.out, R9.out, L7.out, D9.out, B9.out⟩
          case measure => simp [intOf]; omega
      · clear hB
        go_wp2_with fail
        refine (HL.out _).mono ?_
        rintro e w' ⟨rfl, hkp⟩
        go_wp2_with fail
        go_ret
        exact ⟨rfl, keep0_below B.out hkp⟩
      · clear hB
        go_wp2_with fail
        refine (HL.out _).mono ?_
        rintro e w' ⟨rfl, hkp⟩
        go_wp2_with fail
        go_ret
        exact ⟨rfl, keep0_below B.out hkp⟩
  · refine (new_no n w hn).mono ?_
    rintro e w' ⟨rfl, rfl⟩
    clear hn
    go_wp2_with fail
    refine (HL.out _).mono ?_
    rintro e w' ⟨rfl, hkp⟩
    go_wp2_with fail
    go_ret
    exact ⟨rfl, keep0_below (Below.refl _ _) hkp⟩

end Go.Proofs.Ytgphlopbbmjdhaa
