/- The walk of 'ordered', of the laws NetOrder and NetCuts. -/
import Derived.Test.YtgphlopbbmjdhaaOps
import Derived.Deep.DeepCutAuto
namespace Go.Proofs.Ytgphlopbbmjdhaa
open Go.RowKit Go.Conc
set_option linter.unusedVariables false
set_option linter.unusedSimpArgs false

theorem rowIx_flip (n : Nat) (p : Int) (h : rowIx n p 0 = none) : rowIx n 0 p = none := by
  unfold rowIx at h ⊢
  split at h
  · simp at h
  · split at h
    · simp at h
    · rename_i h1 h2
      rw [if_neg (by omega), if_neg (by omega)]

theorem rowIx_flip' (n : Nat) (p : Int) (i : Nat) (h : rowIx n p 0 = some i) : ∃ j, rowIx n 0 p = some j := by
  unfold rowIx at h ⊢
  split at h
  · omega
  · split at h
    · rename_i h1 h2
      rw [if_pos (by omega)]; exact ⟨_, rfl⟩
    · simp at h

set_option maxHeartbeats 40000000 in
set_option maxRecDepth 100000 in
theorem ordered_yes (m : Nat) (a : Option Addr) (len cap : Nat) (ops : Nat → OpV) (inst : Int) (up cuts : Bool) (w : World) (h1 : 1 ≤ m) (h8 : m ≤ 8) (i1 : 1 ≤ inst) (im : inst ≤ m) (hm : len ≤ 9223372036854775807) (ha : ArgOps w a len ops) :
    Calls Try.prog 20 #[.int .i64 m, .slice a len cap, .int .i64 inst, .bool up, .bool cuts] w fun e w' => e = .returned (.bool true) ∧ Below w.heap.size w w' := by
  have HL := Lib.hid lives_yes
  have HA := Lib.hid ha
  have HN := Lib.hid (fun w => new_yes m w h1 h8)
  clear ha
  go_enter Try.func20, Try.ntmps20
  go_wp2_with fail
  refine (HN.out _).mono ?_
  rintro e w1 ⟨L, rfl, hn, hN, hK, hB⟩
  have B1 : Hid (Below w.heap.size w w1) := keep0_below (Below.refl _ _) hK
  have N1 := Lib.hid hN
  have HB := Lib.hid hB
  have NN := Lib.hid hn
  clear hK hN hB hn
  go_upto_if 40 with fail
  go_cut [13, 14] (fun x y wx => ∃ (f t : Int) (i0 : Nat), x = .int .i64 f ∧ y = .int .i64 t ∧ ((f = inst ∧ t = 0) ∨ (f = 0 ∧ t = inst)) ∧ rowIx L.n f t = some i0 ∧ wx = w1)
  case first =>
    cases up
    all_goals
      go_wp2_with fail
      go_meet
    · refine ⟨0, inst, L.n + (inst - 1).toNat, rfl, rfl, .inr ⟨rfl, rfl⟩, ?_, rfl⟩
      unfold rowIx; rw [if_pos ⟨rfl, i1, by rw [NN.out]; exact im⟩]
    · refine ⟨inst, 0, (inst - 1).toNat, rfl, rfl, .inl ⟨rfl, rfl⟩, ?_, rfl⟩
      unfold rowIx; rw [if_neg (by omega), if_pos ⟨rfl, i1, by rw [NN.out]; exact im⟩]
  case rest =>
    obtain ⟨f, t, i0, rfl, rfl, hft, hr, rfl⟩ := hcut
    have R := Lib.hid hr
    have FT := Lib.hid hft
    have hc : w.heap.size ≤ L.c i0 := HB.out _ (.inr (.inr (.inr ⟨i0, rowIx_lt hr, rfl⟩)))
    clear hr hft
    go_wp2_with fail
    go_loopw [15, 16, 17, 18, 19, 20, 21] (fun s t i _ _ _ _ wr => ∃ (k took sent : Nat) (q : Nat → List Qm), k ≤ len ∧ k ≤ 100 ∧ i = .int .i64 k ∧ s = .int .i64 sent ∧ t = .int .i64 took ∧ sent ≤ k ∧ took ≤ sent ∧ NetAt wr L q ∧ Mine (q i0) took sent ∧ Others q i0 ∧ Below w.heap.size w wr) (fun _ _ i _ _ _ _ _ => len - (intOf i).toNat)
    case atStart => exact ⟨0, 0, 0, fun _ => [], Nat.zero_le _, Nat.zero_le _, rfl, rfl, rfl, Nat.le_refl _, Nat.le_refl _, N1.out, ⟨rfl, fun j x hx => by simp at hx⟩, fun i hi x hx => by simp at hx, B1.out⟩
    case round =>
      obtain ⟨k, took, sent, q, hk, hk1, rfl, rfl, rfl, hsk, hts, hN, hM, hO, hB⟩ := hrel
      rcases (by omega : (k < len ∧ k < 100) ∨ (k < len ∧ 100 ≤ k) ∨ len ≤ k) with ⟨hlt, hlt1⟩ | ⟨hlt, hge⟩ | hge
      · obtain ⟨b, off, rfl, hcells⟩ := HA.out.at hB hlt
        obtain ⟨⟨kd, fr, de, nn, ms⟩, hv⟩ : ∃ v, v = ops k := ⟨_, rfl⟩
        rw [← hv] at hcells
        clear hv
        obtain ⟨c0, c1, c2, c3, c4, c5, c6, c7, c8, c9, c10, c11, c12⟩ := hcells
        simp only at c0 c1 c2 c3 c4 c5 c6 c7 c8 c9 c10 c11 c12
        have N := Lib.hid hN
        have M := Lib.hid hM
        have O := Lib.hid hO
        have B := Lib.hid hB
        clear hN hM hO hB
        have Nb := Lib.hid (N.out.keep ((Keep.refl (fun _ => False) _).alloc (.cells #[.int .i64 kd, .int .i64 fr, .int .i64 de, .int .i64 nn, .int .i64 ms.kind, .int .i64 ms.txn, .int .i64 ms.page, .int .i64 ms.dst, .bool ms.fast, .int .u64 ms.lsn, .slice ms.wa ms.wl ms.wc, .slice ms.pa ms.pl ms.pc, .string ms.body] 41)) (fun _ _ h => h))
        have Bb := Lib.hid (B.out.alloc B.out.size (.cells #[.int .i64 kd, .int .i64 fr, .int .i64 de, .int .i64 nn, .int .i64 ms.kind, .int .i64 ms.txn, .int .i64 ms.page, .int .i64 ms.dst, .bool ms.fast, .int .u64 ms.lsn, .slice ms.wa ms.wl ms.wc, .slice ms.pa ms.pl ms.pc, .string ms.body] 41))
        clear N B
        go_upto_region 12 with fail
        go_cut [19] (fun x wx => ∃ ow : Bool, x = .bool ow ∧ (ow = true ↔ fr = f ∧ de = t) ∧ wx = wr.alloc (.cells #[.int .i64 kd, .int .i64 fr, .int .i64 de, .int .i64 nn, .int .i64 ms.kind, .int .i64 ms.txn, .int .i64 ms.page, .int .i64 ms.dst, .bool ms.fast, .int .u64 ms.lsn, .slice ms.wa ms.wl ms.wc, .slice ms.pa ms.pl ms.pc, .string ms.body] 41))
        case first =>
          by_cases hff : fr = f
          · have hffb : (fr == f) = true := by rw [beq_iff_eq]; exact hff
            have HF := Lib.hid hff
            clear hff
            by_cases htt : de = t
            · have httb : (de == t) = true := by rw [beq_iff_eq]; exact htt
              have HT := Lib.hid htt
              clear htt
              go_wp2_with fail
              go_meet
              exact ⟨true, rfl, ⟨fun _ => ⟨HF.out, HT.out⟩, fun _ => rfl⟩, rfl⟩
            · have httb : (de == t) = false := by rw [beq_eq_false_iff_ne]; exact htt
              have HT := Lib.hid htt
              clear htt
              go_wp2_with fail
              go_meet
              exact ⟨false, rfl, ⟨fun h => by simp at h, fun h => absurd h.2 HT.out⟩, rfl⟩
          · have hffb : (fr == f) = false := by rw [beq_eq_false_iff_ne]; exact hff
            have HF := Lib.hid hff
            clear hff
            go_wp2_with fail
            go_meet
            exact ⟨false, rfl, ⟨fun h => by simp at h, fun h => absurd h.1 HF.out⟩, rfl⟩
        case rest =>
          obtain ⟨ow, rfl, how, rfl⟩ := hcut
          have OW := Lib.hid how
          clear how
          rcases Decidable.em (kd = 0) with hk0 | hk0
          · subst hk0
            cases ow
            · have HNE : Hid (¬ (fr = f ∧ de = t)) := fun h => by have := OW.out.2 h; simp at this
              clear OW
              rcases hrow : rowIx L.n fr de with _ | i
              · have RR := Lib.hid hrow
                clear hrow
                go_wp2_with fail
                refine (send_plain_none L q _ _ 0 9999 ⟨#[111, 116, 104, 101, 114]⟩ _ Nb.out RR.out).mono ?_
                rintro e w2 ⟨rfl, hk2⟩
                have N2 := Lib.hid (Nb.out.keep hk2 (fun _ _ h => h))
                have B2 := Lib.hid (keep0_below Bb.out hk2)
                clear hk2
                have hmine : Mine ((q) i0) (took) (sent) := M.out
                have hoth : Others (q) i0 := O.out
                have MM := Lib.hid hmine
                have OO := Lib.hid hoth
                have hlen : ((((q) i0).length : Nat) : Int) = (sent : Int) - (took : Int) := by have := hmine.1; omega
                have LE := Lib.hid hlen
                clear hmine hoth hlen
                go_wp2_with fail
                refine (len_some L _ _ _ i0 _ N2.out R.out).mono ?_
                rintro e w' ⟨rfl, rfl⟩
                rw [LE.out]
                go_wp2_with fail
                go_roundw
                case rel => exact ⟨k + 1, took, sent, q, by omega, by omega, by go_num, by go_num, by go_num, by omega, by have := MM.out.1; omega, N2.out, MM.out, OO.out, B2.out⟩
                case measure => simp [intOf]; omega
              · have hii : i ≠ i0 := fun e => by subst e; have := rowIx_inj hrow R.out; exact HNE.out this
                have hc2 : w.heap.size ≤ L.c i := HB.out _ (.inr (.inr (.inr ⟨i, rowIx_lt hrow, rfl⟩)))
                have RR := Lib.hid hrow
                rcases (by have := Nb.out.len i (rowIx_lt hrow); omega : (q i).length < 256 ∨ (q i).length = 256) with hroom | hfull
                · have HR := Lib.hid hroom
                  clear hroom hrow
                  go_wp2_with fail
                  refine (send_plain L q _ _ i 0 9999 ⟨#[111, 116, 104, 101, 114]⟩ _ Nb.out RR.out HR.out).mono ?_
                  rintro e w2 ⟨rfl, x, _, hx, hxb, hN2, hk2⟩
                  have X := Lib.hid hxb
                  have N2 := Lib.hid hN2
                  have B2 := Lib.hid (keep_below Bb.out hk2 hc2)
                  clear hk2 hN2 hx hxb
                  have hmine : Mine ((put q i (q i ++ [x])) i0) (took) (sent) := by rw [put_other _ _ (Ne.symm hii)]; exact M.out
                  have hoth : Others (put q i (q i ++ [x])) i0 := O.out.put (fun h y hy => by rcases List.mem_append.1 hy with hy | hy; exact O.out i hii y hy; rw [List.mem_singleton] at hy; subst hy; exact X.out)
                  have MM := Lib.hid hmine
                  have OO := Lib.hid hoth
                  have hlen : ((((put q i (q i ++ [x])) i0).length : Nat) : Int) = (sent : Int) - (took : Int) := by have := hmine.1; omega
                  have LE := Lib.hid hlen
                  clear hmine hoth hlen
                  go_wp2_with fail
                  refine (len_some L _ _ _ i0 _ N2.out R.out).mono ?_
                  rintro e w' ⟨rfl, rfl⟩
                  rw [LE.out]
                  go_wp2_with fail
                  go_roundw
                  case rel => exact ⟨k + 1, took, sent, put q i (q i ++ [x]), by omega, by omega, by go_num, by go_num, by go_num, by omega, by have := MM.out.1; omega, N2.out, MM.out, OO.out, B2.out⟩
                  case measure => simp [intOf]; omega
                · have HR := Lib.hid hfull
                  clear hfull hrow
                  go_wp2_with fail
                  refine (send_plain_full L q _ _ i 0 9999 ⟨#[111, 116, 104, 101, 114]⟩ _ Nb.out RR.out HR.out).mono ?_
                  rintro e w2 ⟨rfl, hk2⟩
                  have N2 := Lib.hid (Nb.out.keep hk2 (fun _ _ h => h))
                  have B2 := Lib.hid (keep0_below Bb.out hk2)
                  clear hk2
                  have hmine : Mine ((q) i0) (took) (sent) := M.out
                  have hoth : Others (q) i0 := O.out
                  have MM := Lib.hid hmine
                  have OO := Lib.hid hoth
                  have hlen : ((((q) i0).length : Nat) : Int) = (sent : Int) - (took : Int) := by have := hmine.1; omega
                  have LE := Lib.hid hlen
                  clear hmine hoth hlen
                  go_wp2_with fail
                  refine (len_some L _ _ _ i0 _ N2.out R.out).mono ?_
                  rintro e w' ⟨rfl, rfl⟩
                  rw [LE.out]
                  go_wp2_with fail
                  go_roundw
                  case rel => exact ⟨k + 1, took, sent, q, by omega, by omega, by go_num, by go_num, by go_num, by omega, by have := MM.out.1; omega, N2.out, MM.out, OO.out, B2.out⟩
                  case measure => simp [intOf]; omega
            · obtain ⟨hff, htt⟩ := OW.out.1 rfl
              subst hff
              subst htt
              clear OW
              rcases (by have := Nb.out.len i0 (rowIx_lt R.out); omega : (q i0).length < 256 ∨ (q i0).length = 256) with hroom | hfull
              · have HR := Lib.hid hroom
                clear hroom
                go_wp2_with fail
                refine (send_plain L q _ _ i0 0 (sent + 1) ⟨#[111, 119, 110]⟩ _ Nb.out R.out HR.out).mono ?_
                rintro e w2 ⟨rfl, x, _, hx, hxb, hN2, hk2⟩
                have X := Lib.hid (And.intro hx hxb)
                have N2 := Lib.hid hN2
                have B2 := Lib.hid (keep_below Bb.out hk2 hc)
                clear hk2 hN2 hx hxb
                have hmine : Mine ((put q i0 (q i0 ++ [x])) i0) (took) (sent + 1) := by rw [put_self]; exact M.out.snoc X.out.1 X.out.2
                have hoth : Others (put q i0 (q i0 ++ [x])) i0 := O.out.put (fun h => absurd rfl h)
                have MM := Lib.hid hmine
                have OO := Lib.hid hoth
                have hlen : ((((put q i0 (q i0 ++ [x])) i0).length : Nat) : Int) = ((sent : Int) + 1) - (took : Int) := by have := hmine.1; omega
                have LE := Lib.hid hlen
                clear hmine hoth hlen
                go_wp2_with fail
                refine (len_some L _ _ _ i0 _ N2.out R.out).mono ?_
                rintro e w' ⟨rfl, rfl⟩
                rw [LE.out]
                go_wp2_with fail
                go_roundw
                case rel => exact ⟨k + 1, took, sent + 1, put q i0 (q i0 ++ [x]), by omega, by omega, by go_num, by go_num, by go_num, by omega, by have := MM.out.1; omega, N2.out, MM.out, OO.out, B2.out⟩
                case measure => simp [intOf]; omega
              · have HR := Lib.hid hfull
                clear hfull
                go_wp2_with fail
                refine (send_plain_full L q _ _ i0 0 (sent + 1) ⟨#[111, 119, 110]⟩ _ Nb.out R.out HR.out).mono ?_
                rintro e w2 ⟨rfl, hk2⟩
                have N2 := Lib.hid (Nb.out.keep hk2 (fun _ _ h => h))
                have B2 := Lib.hid (keep0_below Bb.out hk2)
                clear hk2
                have hmine : Mine ((q) i0) (took) (sent) := M.out
                have hoth : Others (q) i0 := O.out
                have MM := Lib.hid hmine
                have OO := Lib.hid hoth
                have hlen : ((((q) i0).length : Nat) : Int) = (sent : Int) - (took : Int) := by have := hmine.1; omega
                have LE := Lib.hid hlen
                clear hmine hoth hlen
                go_wp2_with fail
                refine (len_some L _ _ _ i0 _ N2.out R.out).mono ?_
                rintro e w' ⟨rfl, rfl⟩
                rw [LE.out]
                go_wp2_with fail
                go_roundw
                case rel => exact ⟨k + 1, took, sent, q, by omega, by omega, by go_num, by go_num, by go_num, by omega, by have := MM.out.1; omega, N2.out, MM.out, OO.out, B2.out⟩
                case measure => simp [intOf]; omega
          · have hk0b : (kd == 0) = false := by rw [beq_eq_false_iff_ne]; exact hk0
            rcases Decidable.em (kd = 1) with hk1' | hk1'
            · subst hk1'
              clear hk0 hk0b
              cases ow
              · have HNE : Hid (¬ (fr = f ∧ de = t)) := fun h => by have := OW.out.2 h; simp at this
                clear OW
                rcases hrow : rowIx L.n fr de with _ | i
                · have RR := Lib.hid hrow
                  clear hrow
                  go_wp2_with fail
                  refine (take_none L q _ _ _ Nb.out RR.out).mono ?_
                  rintro e w2 ⟨rfl, hk2⟩
                  have N2 := Lib.hid (Nb.out.keep (hk2.alloc (.cells #[.int .i64 0, .int .i64 0, .int .i64 0, .int .i64 0, .bool false, .int .u64 0, .slice none 0 0, .slice none 0 0, .string ⟨#[]⟩] 33)) (fun _ _ h => h))
                  have B2 := Lib.hid (keep0_below Bb.out (hk2.alloc (.cells #[.int .i64 0, .int .i64 0, .int .i64 0, .int .i64 0, .bool false, .int .u64 0, .slice none 0 0, .slice none 0 0, .string ⟨#[]⟩] 33)))
                  clear hk2
                  have hmine : Mine ((q) i0) (took) (sent) := M.out
                  have hoth : Others (q) i0 := O.out
                  have MM := Lib.hid hmine
                  have OO := Lib.hid hoth
                  have hlen : ((((q) i0).length : Nat) : Int) = (sent : Int) - (took : Int) := by have := hmine.1; omega
                  have LE := Lib.hid hlen
                  clear hmine hoth hlen
                  go_wp2_with fail
                  refine (len_some L _ _ _ i0 _ N2.out R.out).mono ?_
                  rintro e w' ⟨rfl, rfl⟩
                  rw [LE.out]
                  go_wp2_with fail
                  go_roundw
                  case rel => exact ⟨k + 1, took, sent, q, by omega, by omega, by go_num, by go_num, by go_num, by omega, by have := MM.out.1; omega, N2.out, MM.out, OO.out, B2.out⟩
                  case measure => simp [intOf]; omega
                · have hii : i ≠ i0 := fun e => by subst e; have := rowIx_inj hrow R.out; exact HNE.out this
                  have hc2 : w.heap.size ≤ L.c i := HB.out _ (.inr (.inr (.inr ⟨i, rowIx_lt hrow, rfl⟩)))
                  have RR := Lib.hid hrow
                  clear hrow
                  rcases hq : q i with _ | ⟨⟨xk, xt, xp, xd, xf, xl, xwa, xwl, xwc, xpa, xpl, xpc, xb⟩, rest⟩
                  · have QQ := Lib.hid hq
                    clear hq
                    go_wp2_with fail
                    refine (take_empty L q _ _ i _ Nb.out RR.out QQ.out).mono ?_
                    rintro e w2 ⟨rfl, hk2⟩
                    have N2 := Lib.hid (Nb.out.keep (hk2.alloc (.cells #[.int .i64 0, .int .i64 0, .int .i64 0, .int .i64 0, .bool false, .int .u64 0, .slice none 0 0, .slice none 0 0, .string ⟨#[]⟩] 33)) (fun _ _ h => h))
                    have B2 := Lib.hid (keep0_below Bb.out (hk2.alloc (.cells #[.int .i64 0, .int .i64 0, .int .i64 0, .int .i64 0, .bool false, .int .u64 0, .slice none 0 0, .slice none 0 0, .string ⟨#[]⟩] 33)))
                    clear hk2
                    have hmine : Mine ((q) i0) (took) (sent) := M.out
                    have hoth : Others (q) i0 := O.out
                    have MM := Lib.hid hmine
                    have OO := Lib.hid hoth
                    have hlen : ((((q) i0).length : Nat) : Int) = (sent : Int) - (took : Int) := by have := hmine.1; omega
                    have LE := Lib.hid hlen
                    clear hmine hoth hlen
                    go_wp2_with fail
                    refine (len_some L _ _ _ i0 _ N2.out R.out).mono ?_
                    rintro e w' ⟨rfl, rfl⟩
                    rw [LE.out]
                    go_wp2_with fail
                    go_roundw
                    case rel => exact ⟨k + 1, took, sent, q, by omega, by omega, by go_num, by go_num, by go_num, by omega, by have := MM.out.1; omega, N2.out, MM.out, OO.out, B2.out⟩
                    case measure => simp [intOf]; omega
                  · have hx := O.out i hii _ (by rw [hq]; exact List.mem_cons_self)
                    simp only at hx
                    subst hx
                    have QQ := Lib.hid hq
                    clear hq
                    go_wp2_with fail
                    refine (take_some L q _ _ i _ rest _ Nb.out RR.out QQ.out).mono ?_
                    rintro e w2 ⟨rfl, hN2, hk2⟩
                    have N2 := Lib.hid (hN2.keep ((Keep.refl (fun _ => False) _).alloc (.cells #[.int .i64 xk, .int .i64 xt, .int .i64 xp, .int .i64 xd, .bool xf, .int .u64 xl, .slice xwa xwl xwc, .slice xpa xpl xpc, .string ⟨#[111, 116, 104, 101, 114]⟩] 33)) (fun _ _ h => h))
                    have B2 := Lib.hid ((keep_below Bb.out hk2 hc2).alloc (keep_below Bb.out hk2 hc2).size (.cells #[.int .i64 xk, .int .i64 xt, .int .i64 xp, .int .i64 xd, .bool xf, .int .u64 xl, .slice xwa xwl xwc, .slice xpa xpl xpc, .string ⟨#[111, 116, 104, 101, 114]⟩] 33))
                    clear hk2 hN2
                    have hmine : Mine ((put q i rest) i0) (took) (sent) := by rw [put_other _ _ (Ne.symm hii)]; exact M.out
                    have hoth : Others (put q i rest) i0 := O.out.put (fun h y hy => O.out i hii y (by rw [QQ.out]; exact List.mem_cons_of_mem _ hy))
                    have MM := Lib.hid hmine
                    have OO := Lib.hid hoth
                    have hlen : ((((put q i rest) i0).length : Nat) : Int) = (sent : Int) - (took : Int) := by have := hmine.1; omega
                    have LE := Lib.hid hlen
                    clear hmine hoth hlen
                    go_wp2_with fail
                    refine (len_some L _ _ _ i0 _ N2.out R.out).mono ?_
                    rintro e w' ⟨rfl, rfl⟩
                    rw [LE.out]
                    go_wp2_with fail
                    go_roundw
                    case rel => exact ⟨k + 1, took, sent, put q i rest, by omega, by omega, by go_num, by go_num, by go_num, by omega, by have := MM.out.1; omega, N2.out, MM.out, OO.out, B2.out⟩
                    case measure => simp [intOf]; omega
              · obtain ⟨hff, htt⟩ := OW.out.1 rfl
                subst hff
                subst htt
                clear OW
                rcases hq : q i0 with _ | ⟨⟨xk, xt, xp, xd, xf, xl, xwa, xwl, xwc, xpa, xpl, xpc, xb⟩, rest⟩
                · have QQ := Lib.hid hq
                  have hts' : ¬ took < sent := by have := M.out.1; rw [hq] at this; simp at this; omega
                  clear hq
                  go_wp2_with fail
                  refine (take_empty L q _ _ i0 _ Nb.out R.out QQ.out).mono ?_
                  rintro e w2 ⟨rfl, hk2⟩
                  have N2 := Lib.hid (Nb.out.keep (hk2.alloc (.cells #[.int .i64 0, .int .i64 0, .int .i64 0, .int .i64 0, .bool false, .int .u64 0, .slice none 0 0, .slice none 0 0, .string ⟨#[]⟩] 33)) (fun _ _ h => h))
                  have B2 := Lib.hid (keep0_below Bb.out (hk2.alloc (.cells #[.int .i64 0, .int .i64 0, .int .i64 0, .int .i64 0, .bool false, .int .u64 0, .slice none 0 0, .slice none 0 0, .string ⟨#[]⟩] 33)))
                  clear hk2
                  have hmine : Mine ((q) i0) (took) (sent) := M.out
                  have hoth : Others (q) i0 := O.out
                  have MM := Lib.hid hmine
                  have OO := Lib.hid hoth
                  have hlen : ((((q) i0).length : Nat) : Int) = (sent : Int) - (took : Int) := by have := hmine.1; omega
                  have LE := Lib.hid hlen
                  clear hmine hoth hlen
                  go_wp2_with fail
                  refine (len_some L _ _ _ i0 _ N2.out R.out).mono ?_
                  rintro e w' ⟨rfl, rfl⟩
                  rw [LE.out]
                  go_wp2_with fail
                  go_roundw
                  case rel => exact ⟨k + 1, took, sent, q, by omega, by omega, by go_num, by go_num, by go_num, by omega, by have := MM.out.1; omega, N2.out, MM.out, OO.out, B2.out⟩
                  case measure => simp [intOf]; omega
                · have hx := M.out.2 0 _ (by rw [hq]; rfl)
                  have hts' : took < sent := by have := M.out.1; rw [hq] at this; simp at this; omega
                  simp only [Int.natCast_zero, Int.add_zero] at hx
                  obtain ⟨rfl, rfl⟩ := hx
                  have QQ := Lib.hid hq
                  clear hq
                  go_wp2_with fail
                  refine (take_some L q _ _ i0 _ rest _ Nb.out R.out QQ.out).mono ?_
                  rintro e w2 ⟨rfl, hN2, hk2⟩
                  have N2 := Lib.hid (hN2.keep ((Keep.refl (fun _ => False) _).alloc (.cells #[.int .i64 xk, .int .i64 ((took : Int) + 1), .int .i64 xp, .int .i64 xd, .bool xf, .int .u64 xl, .slice xwa xwl xwc, .slice xpa xpl xpc, .string ⟨#[111, 119, 110]⟩] 33)) (fun _ _ h => h))
                  have B2 := Lib.hid ((keep_below Bb.out hk2 hc).alloc (keep_below Bb.out hk2 hc).size (.cells #[.int .i64 xk, .int .i64 ((took : Int) + 1), .int .i64 xp, .int .i64 xd, .bool xf, .int .u64 xl, .slice xwa xwl xwc, .slice xpa xpl xpc, .string ⟨#[111, 119, 110]⟩] 33))
                  clear hk2 hN2
                  have hmine : Mine ((put q i0 rest) i0) (took + 1) (sent) := by rw [put_self]; exact Mine.tail (by rw [← QQ.out]; exact M.out)
                  have hoth : Others (put q i0 rest) i0 := O.out.put (fun h => absurd rfl h)
                  have MM := Lib.hid hmine
                  have OO := Lib.hid hoth
                  have hlen : ((((put q i0 rest) i0).length : Nat) : Int) = (sent : Int) - ((took : Int) + 1) := by have := hmine.1; omega
                  have LE := Lib.hid hlen
                  clear hmine hoth hlen
                  go_wp2_with fail
                  refine (len_some L _ _ _ i0 _ N2.out R.out).mono ?_
                  rintro e w' ⟨rfl, rfl⟩
                  rw [LE.out]
                  go_wp2_with fail
                  go_roundw
                  case rel => exact ⟨k + 1, took + 1, sent, put q i0 rest, by omega, by omega, by go_num, by go_num, by go_num, by omega, by have := MM.out.1; omega, N2.out, MM.out, OO.out, B2.out⟩
                  case measure => simp [intOf]; omega
            · have hk1b : (kd == 1) = false := by rw [beq_eq_false_iff_ne]; exact hk1'
              rcases Decidable.em (kd = 2) with hk2' | hk2'
              · subst hk2'
                clear hk0 hk0b hk1' hk1b OW
                cases cuts
                · have N2 := Nb
                  have B2 := Bb
                  have hmine : Mine ((q) i0) (took) (sent) := M.out
                  have hoth : Others (q) i0 := O.out
                  have MM := Lib.hid hmine
                  have OO := Lib.hid hoth
                  have hlen : ((((q) i0).length : Nat) : Int) = (sent : Int) - (took : Int) := by have := hmine.1; omega
                  have LE := Lib.hid hlen
                  clear hmine hoth hlen
                  go_wp2_with fail
                  refine (len_some L _ _ _ i0 _ N2.out R.out).mono ?_
                  rintro e w' ⟨rfl, rfl⟩
                  rw [LE.out]
                  go_wp2_with fail
                  go_roundw
                  case rel => exact ⟨k + 1, took, sent, q, by omega, by omega, by go_num, by go_num, by go_num, by omega, by have := MM.out.1; omega, N2.out, MM.out, OO.out, B2.out⟩
                  case measure => simp [intOf]; omega
                · rcases Decidable.em (fr = inst) with hfi | hfi
                  · have hfib : (fr == inst) = true := by rw [beq_iff_eq]; exact hfi
                    clear hfi
                    have N2 := Nb
                    have B2 := Bb
                    have hmine : Mine ((q) i0) (took) (sent) := M.out
                    have hoth : Others (q) i0 := O.out
                    have MM := Lib.hid hmine
                    have OO := Lib.hid hoth
                    have hlen : ((((q) i0).length : Nat) : Int) = (sent : Int) - (took : Int) := by have := hmine.1; omega
                    have LE := Lib.hid hlen
                    clear hmine hoth hlen
                    go_wp2_with fail
                    refine (len_some L _ _ _ i0 _ N2.out R.out).mono ?_
                    rintro e w' ⟨rfl, rfl⟩
                    rw [LE.out]
                    go_wp2_with fail
                    go_roundw
                    case rel => exact ⟨k + 1, took, sent, q, by omega, by omega, by go_num, by go_num, by go_num, by omega, by have := MM.out.1; omega, N2.out, MM.out, OO.out, B2.out⟩
                    case measure => simp [intOf]; omega
                  · have hfib : (fr == inst) = false := by rw [beq_eq_false_iff_ne]; exact hfi
                    have HFI := Lib.hid hfi
                    clear hfi
                    rcases Decidable.em (fr = 0) with hf0 | hf0
                    · subst hf0
                      go_wp2_with fail
                      refine (cut_zero _ _).mono ?_
                      rintro e w' ⟨rfl, rfl⟩
                      have N2 := Nb
                      have B2 := Bb
                      have hmine : Mine ((q) i0) (took) (sent) := M.out
                      have hoth : Others (q) i0 := O.out
                      have MM := Lib.hid hmine
                      have OO := Lib.hid hoth
                      have hlen : ((((q) i0).length : Nat) : Int) = (sent : Int) - (took : Int) := by have := hmine.1; omega
                      have LE := Lib.hid hlen
                      clear hmine hoth hlen
                      go_wp2_with fail
                      refine (len_some L _ _ _ i0 _ N2.out R.out).mono ?_
                      rintro e w' ⟨rfl, rfl⟩
                      rw [LE.out]
                      go_wp2_with fail
                      go_roundw
                      case rel => exact ⟨k + 1, took, sent, q, by omega, by omega, by go_num, by go_num, by go_num, by omega, by have := MM.out.1; omega, N2.out, MM.out, OO.out, B2.out⟩
                      case measure => simp [intOf]; omega
                    · have HF0 := Lib.hid hf0
                      clear hf0
                      rcases hrow : rowIx L.n fr 0 with _ | iu
                      · have RU := Lib.hid hrow
                        have RD : Hid (rowIx L.n 0 fr = none) := rowIx_flip L.n fr hrow
                        clear hrow
                        go_wp2_with fail
                        refine (cut_none L q _ _ Nb.out HF0.out RU.out RD.out).mono ?_
                        rintro e w2 ⟨rfl, hk2⟩
                        have N2 := Lib.hid (Nb.out.keep hk2 (fun _ _ h => h))
                        have B2 := Lib.hid (keep0_below Bb.out hk2)
                        clear hk2
                        have hmine : Mine ((q) i0) (took) (sent) := M.out
                        have hoth : Others (q) i0 := O.out
                        have MM := Lib.hid hmine
                        have OO := Lib.hid hoth
                        have hlen : ((((q) i0).length : Nat) : Int) = (sent : Int) - (took : Int) := by have := hmine.1; omega
                        have LE := Lib.hid hlen
                        clear hmine hoth hlen
                        go_wp2_with fail
                        refine (len_some L _ _ _ i0 _ N2.out R.out).mono ?_
                        rintro e w' ⟨rfl, rfl⟩
                        rw [LE.out]
                        go_wp2_with fail
                        go_roundw
                        case rel => exact ⟨k + 1, took, sent, q, by omega, by omega, by go_num, by go_num, by go_num, by omega, by have := MM.out.1; omega, N2.out, MM.out, OO.out, B2.out⟩
                        case measure => simp [intOf]; omega
                      · obtain ⟨id, hrd⟩ := rowIx_flip' L.n fr iu hrow
                        have n1 : iu ≠ i0 := fun e => by subst e; have := rowIx_inj hrow R.out; have h1 := FT.out; have h2 := HFI.out; have h3 := HF0.out; omega
                        have n2 : id ≠ i0 := fun e => by subst e; have := rowIx_inj hrd R.out; have h1 := FT.out; have h2 := HFI.out; have h3 := HF0.out; omega
                        have n3 : iu ≠ id := fun e => by subst e; have := rowIx_inj hrow hrd; have h3 := HF0.out; omega
                        have hcu : w.heap.size ≤ L.c iu := HB.out _ (.inr (.inr (.inr ⟨iu, rowIx_lt hrow, rfl⟩)))
                        have hcd : w.heap.size ≤ L.c id := HB.out _ (.inr (.inr (.inr ⟨id, rowIx_lt hrd, rfl⟩)))
                        have RU := Lib.hid hrow
                        have RD := Lib.hid hrd
                        clear hrow hrd
                        go_wp2_with fail
                        refine (cut_some L q _ iu id _ Nb.out RU.out RD.out n3).mono ?_
                        rintro e w2 ⟨rfl, hN2, hk2⟩
                        have N2 := Lib.hid hN2
                        have B2 := Lib.hid (Bb.out.trans (hk2.below Bb.out.size (fun k hk e => by omega)))
                        clear hk2 hN2
                        have hmine : Mine ((put (put q iu []) id []) i0) (took) (sent) := by rw [put_other _ _ (Ne.symm n2), put_other _ _ (Ne.symm n1)]; exact M.out
                        have hoth : Others (put (put q iu []) id []) i0 := (O.out.put (fun h y hy => by cases hy)).put (fun h y hy => by cases hy)
                        have MM := Lib.hid hmine
                        have OO := Lib.hid hoth
                        have hlen : ((((put (put q iu []) id []) i0).length : Nat) : Int) = (sent : Int) - (took : Int) := by have := hmine.1; omega
                        have LE := Lib.hid hlen
                        clear hmine hoth hlen
                        go_wp2_with fail
                        refine (len_some L _ _ _ i0 _ N2.out R.out).mono ?_
                        rintro e w' ⟨rfl, rfl⟩
                        rw [LE.out]
                        go_wp2_with fail
                        go_roundw
                        case rel => exact ⟨k + 1, took, sent, put (put q iu []) id [], by omega, by omega, by go_num, by go_num, by go_num, by omega, by have := MM.out.1; omega, N2.out, MM.out, OO.out, B2.out⟩
                        case measure => simp [intOf]; omega
              · have hk2b : (kd == 2) = false := by rw [beq_eq_false_iff_ne]; exact hk2'
                clear hk0 hk1' hk2' OW
                have N2 := Nb
                have B2 := Bb

                have hmine : Mine ((q) i0) (took) (sent) := M.out
                have hoth : Others (q) i0 := O.out
                have MM := Lib.hid hmine
                have OO := Lib.hid hoth
                have hlen : ((((q) i0).length : Nat) : Int) = (sent : Int) - (took : Int) := by have := hmine.1; omega
                have LE := Lib.hid hlen
                clear hmine hoth hlen
                go_wp2_with fail
                refine (len_some L _ _ _ i0 _ N2.out R.out).mono ?_
                rintro e w' ⟨rfl, rfl⟩
                rw [LE.out]
                go_wp2_with fail
                go_roundw
                case rel => exact ⟨k + 1, took, sent, q, by omega, by omega, by go_num, by go_num, by go_num, by omega, by have := MM.out.1; omega, N2.out, MM.out, OO.out, B2.out⟩
                case measure => simp [intOf]; omega
      all_goals
        have B := Lib.hid hB
        clear hB hN hM hO
        go_wp2_with fail
        refine (HL.out _).mono ?_
        rintro e w' ⟨rfl, hkp⟩
        go_wp2_with fail
        go_ret
        exact ⟨rfl, keep0_below B.out hkp⟩

end Go.Proofs.Ytgphlopbbmjdhaa
