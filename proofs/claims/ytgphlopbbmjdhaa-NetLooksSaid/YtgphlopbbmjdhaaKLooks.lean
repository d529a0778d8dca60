/- The walk of the law NetLooks. -/
import Derived.Test.YtgphlopbbmjdhaaQueue
import Derived.Test.YtgphlopbbmjdhaaSameAll
import Derived.Test.YtgphlopbbmjdhaaKCuts
import Derived.Deep.RegionHeld3
namespace Go.Proofs.Ytgphlopbbmjdhaa
open Go.RowKit Go.Conc
set_option linter.unusedVariables false
set_option linter.unusedSimpArgs false

theorem Src.keep_chan {w w' : World} {L : Lay} {q : Nat → List Qm} {i : Nat} (hN : NetAt w L q) (hi : i < 2 * L.n) (k : Keep (fun k => k = L.c i) w w') {a : Option Addr} {m c size : Nat} {xs : List Value} (h : Src w a m c size xs) (hs : 0 < size) : Src w' a m c size xs := by
  refine h.keep k (fun ad ha hm e => ?_)
  obtain ⟨s, r, hc⟩ := hN.ch i hi
  rcases h with ⟨rfl, _⟩ | ⟨ad', ha', hl, hat, _⟩
  · simp at ha
  · rw [ha] at ha'
    simp only [Option.some.injEq] at ha'
    subst ha'
    have hpos : 0 < xs.length := by rw [hl]; exact Nat.mul_pos (Nat.pos_of_ne_zero hm) hs
    have := chan_ne_cell hc (hat 0 _ (List.getElem?_eq_getElem hpos))
    rw [add_block] at this
    exact this e

theorem Reads.keep_chan {w w' : World} {L : Lay} {q : Nat → List Qm} {i : Nat} {x : Qm} {c : Cont} (h : Reads w x c) (hN : NetAt w L q) (hi : i < 2 * L.n) (k : Keep (fun k => k = L.c i) w w') : Reads w' x c :=
  ⟨h.plain, Src.keep_chan hN hi k h.ws (by omega), Src.keep_chan hN hi k h.ps (by omega)⟩

/-- A look to its end. -/
theorem Looked.done {w0 wr : World} {L : Lay} {q : Nat → List Qm} {i : Nat} {C : List Cont} {a : Option Addr} {cap k : Nat} {xs ys : List Qm} (h : Looked w0 wr L q i C k a cap xs ys) (hk : C.length = k) (hq : (q i).length = k) :
    NetAt wr L (put q i ys) ∧ Each (Holds wr w0.heap.size) xs C ∧ Each (Holds wr w0.heap.size) ys C := by
  have h1 := h.net
  have h2 := h.told
  have h3 := h.back
  rw [List.drop_of_length_le (by omega), List.nil_append] at h1
  rw [List.take_of_length_le (by omega)] at h2 h3
  exact ⟨h1, h2, h3⟩

theorem few_cont {w : World} {m : Qm} {c : Cont} (h : Reads w m c) (hf : m.few = true) : c.few := by
  have := h.wl
  simp only [Qm.few, decide_eq_true_eq] at hf
  exact ⟨by omega, by omega⟩

set_option maxHeartbeats 2000000 in
set_option maxRecDepth 100000 in
theorem netLooks_walk (n : Int) (a : Option Addr) (len cap : Nat) (ops : Nat → OpV) (inst : Int) (w : World) (hm : len ≤ 9223372036854775807) (ha : ArgOps w a len ops) (hok : ∀ j, j < len → MsgOk w (ops j).m) :
    Calls Try.prog 4 #[.int .i64 n, .slice a len cap, .int .i64 inst] w fun e w' => e = .returned (.bool true) ∧ Below w.heap.size w w' := by
  have HL := Lib.hid lives_yes
  have HA := Lib.hid ha
  have HK := Lib.hid hok
  clear ha hok
  go_enter Try.func4, Try.ntmps4
  go_wp2_with fail
  by_cases hn : 1 ≤ n ∧ n ≤ 8
  · obtain ⟨m, rfl⟩ : ∃ m : Nat, n = m := ⟨n.toNat, by omega⟩
    have HN := Lib.hid (fun w => new_yes m w (by omega) (by omega))
    rcases (by omega : inst < 1 ∨ (1 ≤ inst ∧ (m : Int) < inst) ∨ (1 ≤ inst ∧ inst ≤ m)) with h1 | ⟨h1, h2⟩ | ⟨h1, h2⟩
    · refine (HN.out _).mono ?_
      rintro e w3 ⟨L, rfl, hn, hN, hK, hB⟩
      have B3 := Lib.hid (keep0_below (Below.refl _ _) hK)
      clear hn hN hK hB
      go_wp2_with fail
      refine (HL.out _).mono ?_
      rintro e w' ⟨rfl, hkp⟩
      go_wp2_with fail
      go_ret
      exact ⟨rfl, keep0_below B3.out hkp⟩
    · refine (HN.out _).mono ?_
      rintro e w3 ⟨L, rfl, hn, hN, hK, hB⟩
      have B3 := Lib.hid (keep0_below (Below.refl _ _) hK)
      clear hn hN hK hB
      go_wp2_with fail
      refine (HL.out _).mono ?_
      rintro e w' ⟨rfl, hkp⟩
      go_wp2_with fail
      go_ret
      exact ⟨rfl, keep0_below B3.out hkp⟩
    · refine (HN.out _).mono ?_
      rintro e w3 ⟨L, rfl, hn, hN, hK, hB⟩
      have B3 := Lib.hid (keep0_below (Below.refl _ _) hK)
      have N3 := Lib.hid hN
      have HB : Hid (∀ k, L.blk k → w.heap.size ≤ k) := hB
      have NN := Lib.hid hn
      clear hK hN hB hn
      go_wp2_with fail
      go_loopw [9] (fun i wr => ∃ (k : Nat) (q : Nat → List Qm) (C : Nat → List Cont), k ≤ len ∧ k ≤ 60 ∧ i = .int .i64 k ∧ NetAt wr L q ∧ QHolds wr w.heap.size L q C ∧ Below w.heap.size w wr) (fun i _ => len - (intOf i).toNat)
      case atStart => exact ⟨0, fun _ => [], fun _ => [], Nat.zero_le _, Nat.zero_le _, rfl, N3.out, .start _ _ _, B3.out⟩
      case round =>
        obtain ⟨k, q, C, hk, hk1, rfl, hN, hQ, hB⟩ := hrel
        rcases (by omega : (k < len ∧ k < 60) ∨ (k < len ∧ 60 ≤ k) ∨ len ≤ k) with ⟨hlt, hlt1⟩ | ⟨hlt, hge⟩ | hge
        · obtain ⟨b, off, rfl, hcells⟩ := HA.out.at hB hlt
          have hmsg := (HK.out k hlt).below hB
          obtain ⟨⟨kd, fr, de, nn, ms⟩, hv⟩ : ∃ v, v = ops k := ⟨_, rfl⟩
          rw [← hv] at hcells hmsg
          clear hv
          have hbl : ¬ L.blk b := fun h => by
            obtain ⟨b', off', he, hO⟩ := HA.out.at (Below.refl _ _) hlt
            simp only [Option.some.injEq, Addr.mk.injEq, and_true] at he
            obtain ⟨rfl, rfl⟩ := he
            have h1 := HB.out _ h
            have h2 := World.block_lt_of_cell? _ _ hO.c0
            simp only at h2
            omega
          have O := Lib.hid hcells
          obtain ⟨c0, c1, c2, c3, c4, c5, c6, c7, c8, c9, c10, c11, c12⟩ := hcells
          simp only at c0 c1 c2 c3 c4 c5 c6 c7 c8 c9 c10 c11 c12 hmsg
          have N := Lib.hid hN
          have Q := Lib.hid hQ
          have B := Lib.hid hB
          have M := Lib.hid hmsg
          clear hN hB hQ hmsg
          by_cases hk0 : kd = 0
          · subst hk0
            go_wp2_with fail
            refine (small_any ms _).mono ?_
            rintro e w4 ⟨rfl, hkp⟩
            have N4 := Lib.hid (N.out.keep hkp (fun _ _ h => h))
            have B4 := Lib.hid (keep0_below B.out hkp)
            have Q4 := Lib.hid (Q.out.keep0 hkp)
            have M4 := Lib.hid (M.out.below (hkp.below (Nat.le_refl _) (fun k hk e => e)))
            have O4 := Lib.hid (O.out.below (hkp.below (Nat.le_refl _) (fun k hk e => e)))
            clear c0 c1 c2 c3 c4 c5 c6 c7 c8 c9 c10 c11 c12
            obtain ⟨c0, c1, c2, c3, c4, c5, c6, c7, c8, c9, c10, c11, c12⟩ := O4.out
            simp only at c0 c1 c2 c3 c4 c5 c6 c7 c8 c9 c10 c11 c12
            clear hkp
            rcases hfew : ms.few with _ | _
            · go_wp2_with fail
              go_roundw
              case rel => exact ⟨k + 1, q, C, by omega, by omega, by go_num, N4.out, Q4.out, B4.out⟩
              case measure => simp [intOf]; omega
            · have F := Lib.hid hfew
              clear hfew
              go_wp2_with fail
              obtain ⟨wcs, pcs, hr⟩ := M4.out.reads
              have R4 := Lib.hid hr
              have FC := Lib.hid (few_cont hr F.out)
              clear hr
              go_region_held3 (fun w' => w'.cell? ⟨b, off + k * 13 + 1, none⟩ = some (.int .i64 fr) ∧ w'.cell? ⟨b, off + k * 13 + 2, none⟩ = some (.int .i64 de) ∧ w'.cell? ⟨b, off + k * 13 + 4, none⟩ = some (.int .i64 ms.kind) ∧ w'.cell? ⟨b, off + k * 13 + 5, none⟩ = some (.int .i64 ms.txn) ∧ w'.cell? ⟨b, off + k * 13 + 6, none⟩ = some (.int .i64 ms.page) ∧ w'.cell? ⟨b, off + k * 13 + 7, none⟩ = some (.int .i64 ms.dst) ∧ w'.cell? ⟨b, off + k * 13 + 8, none⟩ = some (.bool ms.fast) ∧ w'.cell? ⟨b, off + k * 13 + 9, none⟩ = some (.int .u64 ms.lsn) ∧ w'.cell? ⟨b, off + k * 13 + 10, none⟩ = some (.slice ms.wa ms.wl ms.wc) ∧ w'.cell? ⟨b, off + k * 13 + 11, none⟩ = some (.slice ms.pa ms.pl ms.pc) ∧ w'.cell? ⟨b, off + k * 13 + 12, none⟩ = some (.string ms.body))
                (first
                  | go_keep
                  | (go_split_ands
                     refine ⟨?_, ?_, ?_, ?_, ?_, ?_, ?_, ?_, ?_, ?_, ?_⟩
                     all_goals (refine Keep.got hky ?_ (fun h => h); assumption))
                  | (go_split_ands
                     refine ⟨?_, ?_, ?_, ?_, ?_, ?_, ?_, ?_, ?_, ?_, ?_⟩
                     all_goals (refine Keep.got hK6 ?_ hbl; assumption)))
                (first
                  | (go_at_call 16
                     refine (lawCopied_any ms _ _ (R4.out.keep (Keep.refl (fun _ => False) w4).drew (fun _ _ h => h)) FC.out).mono ?_
                     rintro e w5 ⟨⟨yk, yt, yp, yd, yf, yl, ywa, ywl, ywc, ypa, ypl, ypc, yb⟩, rfl, hky, hy⟩)
                  | (go_at_call 11
                     refine (send_queue L q C w.heap.size _ _ ⟨yk, yt, yp, yd, yf, yl, ywa, ywl, ywc, ypa, ypl, ypc, yb⟩ _ _ (N4.out.keep ((Keep.refl (fun _ => False) w4).drew.none_trans hky) (fun _ _ h => h)) (Q4.out.keep0 ((Keep.refl (fun _ => False) w4).drew.none_trans hky)) ?_ hy.reads FC.out).mono ?_
                     · exact Nat.le_trans B4.out.size hky.size
                     rintro e w6 ⟨r, q', C', rfl, hN6, hQ6, hK6⟩))
              have B6 := Lib.hid (below_net (keep0_below B4.out ((Keep.refl (fun _ => False) w4).drew.none_trans hky)) HB.out hK6 (fun _ h => h))
              have N6 := Lib.hid hN6
              have Q6 := Lib.hid hQ6
              have c0' : w6.cell? ⟨b, off + k * 13, none⟩ = some (.int .i64 0) := hK6.got (hky.got (a := ⟨b, off + k * 13, none⟩) (show w4.drew.cell? ⟨b, off + k * 13, none⟩ = some (.int .i64 0) from c0) (fun h => h)) hbl
              clear hN6 hQ6 hK6 hky hy
              go_wp2_with fail
              go_roundw
              case rel => exact ⟨k + 1, q', C', by omega, by omega, by go_num, N6.out, Q6.out, B6.out⟩
              case measure => simp [intOf]; omega
          · have hk0b : (kd == 0) = false := by rw [beq_eq_false_iff_ne]; exact hk0
            by_cases hk1 : kd = 1
            · subst hk1
              clear hk0 hk0b
              go_wp2_with fail
              go_region_held3 (fun w' => w'.cell? ⟨b, off + k * 13 + 1, none⟩ = some (.int .i64 fr) ∧ w'.cell? ⟨b, off + k * 13 + 2, none⟩ = some (.int .i64 de))
                (first
                  | go_keep
                  | (go_split_ands
                     refine ⟨?_, ?_⟩
                     all_goals (refine Keep.got hK6 ?_ hbl; assumption)))
                (first
                  | (go_at_call 13
                     refine (take_queue L q C w.heap.size _ _ _ (N.out.keep (Keep.refl (fun _ => False) wr).drew (fun _ _ h => h)) (Q.out.keep0 (Keep.refl (fun _ => False) wr).drew)).mono ?_
                     rintro e w6 ⟨r, q', C', rfl, hN6, hQ6, hK6⟩))
              have B6 := Lib.hid (below_net (keep0_below B.out (Keep.refl (fun _ => False) wr).drew) HB.out hK6 (fun _ h => h))
              have N6 := Lib.hid hN6
              have Q6 := Lib.hid hQ6
              clear hN6 hQ6 hK6
              go_wp2_with fail
              go_roundw
              case rel => exact ⟨k + 1, q', C', by omega, by omega, by go_num, N6.out, Q6.out, B6.out⟩
              case measure => simp [intOf]; omega
            · have hk1b : (kd == 1) = false := by rw [beq_eq_false_iff_ne]; exact hk1
              clear hk0 hk1
              go_wp2_with fail
              go_roundw
              case rel => exact ⟨k + 1, q, C, by omega, by omega, by go_num, N.out, Q.out, B.out⟩
              case measure => simp [intOf]; omega
        all_goals
          obtain ⟨iu, hru⟩ : ∃ i, rowIx L.n inst 0 = some i := by
            unfold rowIx; rw [if_neg (by omega), if_pos ⟨rfl, h1, by rw [NN.out]; exact h2⟩]; exact ⟨_, rfl⟩
          have hiu := rowIx_lt hru
          have hsb := sumTo_le q L.n hN.len L.n (Nat.le_refl _)
          have h8 := hN.pos.2
          have lu := hN.len iu hiu
          obtain ⟨s, hs⟩ : ∃ s : Nat, sumTo q L.n L.n = s := ⟨_, rfl⟩
          obtain ⟨x, hx⟩ : ∃ x : Nat, (C iu).length = x := ⟨_, rfl⟩
          have hxl : (q iu).length = x := by rw [← hx]; exact (hQ.each iu hiu).len
          have b1 : (s : Int) ≤ 4096 := by omega
          have b2 : (x : Int) ≤ 256 := by omega
          have b3 : x ≤ 256 := by omega
          have HS := Lib.hid hs
          have HX := Lib.hid hx
          have HXL := Lib.hid hxl
          have N := Lib.hid hN
          have Q := Lib.hid hQ
          have B := Lib.hid hB
          have RU := Lib.hid hru
          have HI := Lib.hid hiu
          clear hN hB hQ hru hiu hsb h8 lu hs hx hxl
          go_wp2_with fail
          refine (sum_any L q _ N.out).mono ?_
          rintro e w4 ⟨rfl, d, hd⟩
          have KD : Keep (fun _ => False) wr w4 := by subst hd; exact (Keep.refl (fun _ => False) _).drewN d
          have N4 := Lib.hid (N.out.keep KD (fun _ _ h => h))
          have Q4 := Lib.hid (Q.out.keep0 KD)
          have B4 := Lib.hid (keep0_below B.out KD)
          clear hd KD
          rw [HS.out]
          go_wp2_with fail
          refine (peek_some L q _ _ iu (C iu) _ _ N4.out RU.out (Q4.out.each iu HI.out) (Q4.out.few iu HI.out)).mono ?_
          rintro e w5 ⟨xa, xcap, xs, ys, rfl, hlk⟩
          rw [HX.out] at hlk ⊢
          have LK := Lib.hid hlk
          obtain ⟨hn5, he5, hf5⟩ := hlk.done HX.out HXL.out
          have N5 := Lib.hid hn5
          have E5 := Lib.hid he5
          have F5 : Hid (Each (Holds w5 w4.heap.size) (put q iu ys iu) (C iu)) := by rw [put_self]; exact hf5
          have YL : Hid (ys.length = x) := by rw [← HX.out]; exact hf5.len
          have B5 := Lib.hid (below_net B4.out HB.out hlk.keep (fun k e => .inr (.inr (.inr ⟨iu, HI.out, e⟩))))
          clear hlk hn5 he5 hf5
          go_wp2_with fail
          refine (peek_some L _ _ _ iu (C iu) _ _ N5.out RU.out F5.out (Q4.out.few iu HI.out)).mono ?_
          rintro e w6 ⟨ya, ycap, xs', ys', rfl, hlk⟩
          rw [HX.out] at hlk ⊢
          obtain ⟨hn6, he6, hf6⟩ := hlk.done HX.out (by rw [put_self]; exact YL.out)
          rw [put_put] at hn6
          have N6 := Lib.hid hn6
          have F6 := Lib.hid hf6
          have YL' : Hid (ys'.length = x) := by rw [← HX.out]; exact hf6.len
          have MY : Hid (Msgs w6 ya x (C iu)) := he6.msgs hlk.row HX.out
          have MX : Hid (Msgs w6 xa x (C iu)) := by
            have hlc : L.c iu < w4.heap.size := N4.out.blk_lt (.inr (.inr (.inr ⟨iu, HI.out, rfl⟩)))
            exact Each.msgs (base := w4.heap.size) (E5.out.mono (fun z c _ hz => hz.keep_net N5.out HI.out hlk.keep)) (owns_keep LK.out.row hlk.keep (fun j hj e => by have := (LK.out.row.lt j hj).1; omega)) HX.out
          have B6 := Lib.hid (below_net B5.out HB.out hlk.keep (fun k e => .inr (.inr (.inr ⟨iu, HI.out, e⟩))))
          clear hlk hn6 he6 hf6
          go_wp2_with fail
          refine (sameAll_yes xa ya x xcap ycap (C iu) _ MX.out MY.out (Q4.out.few iu HI.out) (by omega)).mono ?_
          rintro e w7 ⟨rfl, hk7⟩
          have N7 := Lib.hid (N6.out.keep hk7 (fun _ _ h => h))
          have B7 := Lib.hid (keep0_below B6.out hk7)
          have F7 : Hid (Each (Holds w7 w5.heap.size) ys' (C iu)) := F6.out.mono (fun z c _ hz => hz.keep hk7 (fun _ _ h => h))
          have MX7 := Lib.hid (MX.out.keep hk7)
          have S7 : Hid (sumTo (put q iu ys') L.n L.n = s) := by
            have h1 := sum_put q iu ys' L.n HI.out
            have h2 := HS.out
            have h3 := YL'.out
            have h4 := HXL.out
            exact Lib.hid (by omega)
          clear hk7
          go_wp2_with fail
          refine (sum_any L _ _ N7.out).mono ?_
          rintro e w8 ⟨rfl, d, hd⟩
          have KD : Keep (fun _ => False) w7 w8 := by subst hd; exact (Keep.refl (fun _ => False) _).drewN d
          have N8 := Lib.hid (N7.out.keep KD (fun _ _ h => h))
          have B8 := Lib.hid (keep0_below B7.out KD)
          have F8 : Hid (Each (Holds w8 w5.heap.size) ys' (C iu)) := F7.out.mono (fun z c _ hz => hz.keep KD (fun _ _ h => h))
          have MX8 := Lib.hid (MX7.out.keep KD)
          clear hd KD
          rw [S7.out]
          go_wp2_with fail
          refine (len_some L _ _ _ iu _ N8.out RU.out).mono ?_
          rintro e w' ⟨rfl, rfl⟩
          rw [put_self, YL'.out]
          go_wp2_with fail
          have N8' : Hid (NetAt w8 L (put q iu (ys'.drop 0))) := N8.out
          go_loopw [13] (fun i wz => ∃ (j : Nat), j ≤ x ∧ i = .int .i64 j ∧ NetAt wz L (put q iu (ys'.drop j)) ∧ Keep (fun k => k = L.c iu) w8 wz) (fun i _ => x - (intOf i).toNat)
          case atStart => exact ⟨0, Nat.zero_le _, rfl, N8'.out, Keep.refl _ _⟩
          case round =>
            obtain ⟨j, hj, rfl, hN, hK⟩ := hrel
            have N := Lib.hid hN
            have K := Lib.hid hK
            have BZ := Lib.hid (below_net B8.out HB.out hK (fun k e => .inr (.inr (.inr ⟨iu, HI.out, e⟩))))
            clear hN hK
            rcases (by omega : j < x ∨ x ≤ j) with hlt | hge
            · obtain ⟨c, hc⟩ : ∃ c, (C iu)[j]? = some c := ⟨_, List.getElem?_eq_getElem (by rw [HX.out]; exact hlt)⟩
              obtain ⟨ms, hms⟩ : ∃ ms, ys'[j]? = some ms := ⟨_, List.getElem?_eq_getElem (by rw [YL'.out]; exact hlt)⟩
              have HM8 := Lib.hid (F8.out.get j ms c hms hc)
              obtain ⟨g, goff, xm, rfl, hmc, hxr⟩ := MX8.out.get j c hc
              have FC := Lib.hid (Q4.out.few iu HI.out c (List.mem_of_getElem? hc))
              have hg : g ≠ L.c iu := by
                obtain ⟨s0, r0, hch⟩ := N8.out.ch iu HI.out
                exact chan_ne_cell hch hmc.c0
              have hq : ys'.drop j = ms :: ys'.drop (j + 1) := by
                obtain ⟨hk', rfl⟩ := List.getElem?_eq_some_iff.1 hms
                exact List.drop_eq_getElem_cons hk'
              have HQ : Hid (put q iu (ys'.drop j) iu = ms :: ys'.drop (j + 1)) := by rw [put_self]; exact hq
              have HG := Lib.hid hg
              have XC := Lib.hid hmc
              have XR := Lib.hid hxr
              obtain ⟨mk, mt, mp, md, mf, ml, mwa, mwl, mwc, mpa, mpl, mpc, mb⟩ := ms
              clear hc hms hmc hxr hg hq
              go_wp2_with fail
              refine (take_some L _ _ _ iu _ _ _ N.out RU.out HQ.out).mono ?_
              rintro e w9 ⟨rfl, hN9, hk9⟩
              rw [put_put] at hN9
              have KA : Hid (Keep (fun k => k = L.c iu) w8 (w9.alloc (.cells #[.int .i64 mk, .int .i64 mt, .int .i64 mp, .int .i64 md, .bool mf, .int .u64 ml, .slice mwa mwl mwc, .slice mpa mpl mpc, .string mb] 33))) := (K.out.trans hk9 (fun _ e => .inl e)).alloc _
              have N10 : Hid (NetAt (w9.alloc (.cells #[.int .i64 mk, .int .i64 mt, .int .i64 mp, .int .i64 md, .bool mf, .int .u64 ml, .slice mwa mwl mwc, .slice mpa mpl mpc, .string mb] 33)) L (put q iu (ys'.drop (j + 1)))) := hN9.keep ((Keep.refl (fun _ => False) _).alloc _) (fun _ _ h => h)
              have HM10 := Lib.hid (HM8.out.keep_net N8.out HI.out KA.out)
              have XR10 := Lib.hid (XR.out.keep_chan N8.out HI.out KA.out)
              have BM : Blk (w9.alloc (.cells #[.int .i64 mk, .int .i64 mt, .int .i64 mp, .int .i64 md, .bool mf, .int .u64 ml, .slice mwa mwl mwc, .slice mpa mpl mpc, .string mb] 33)) w9.heap.size 33 [.int .i64 mk, .int .i64 mt, .int .i64 mp, .int .i64 md, .bool mf, .int .u64 ml, .slice mwa mwl mwc, .slice mpa mpl mpc, .string mb] := heap_alloc_new _ _
              obtain ⟨c0, c1, c2, c3, c4, c5, c6, c7, c8⟩ := XC.out.keep KA.out HG.out
              have d0 := BM.at (i := 0) rfl
              have d1 := BM.at (i := 1) rfl
              have d2 := BM.at (i := 2) rfl
              have d3 := BM.at (i := 3) rfl
              have d4 := BM.at (i := 4) rfl
              have d5 := BM.at (i := 5) rfl
              have d6 := BM.at (i := 6) rfl
              have d7 := BM.at (i := 7) rfl
              have d8 := BM.at (i := 8) rfl
              clear hN9 hk9 BM
              go_wp2_with fail
              generalize w9.alloc (.cells #[.int .i64 mk, .int .i64 mt, .int .i64 mp, .int .i64 md, .bool mf, .int .u64 ml, .slice mwa mwl mwc, .slice mpa mpl mpc, .string mb] 33) = wa at KA N10 HM10 XR10 c0 c1 c2 c3 c4 c5 c6 c7 c8 d0 d1 d2 d3 d4 d5 d6 d7 d8 ⊢
              go_region_held3 (fun w' => w'.cell? ⟨w9.heap.size, 0, none⟩ = some (.int .i64 mk) ∧ w'.cell? ⟨w9.heap.size, 1, none⟩ = some (.int .i64 mt) ∧ w'.cell? ⟨w9.heap.size, 2, none⟩ = some (.int .i64 mp) ∧ w'.cell? ⟨w9.heap.size, 3, none⟩ = some (.int .i64 md) ∧ w'.cell? ⟨w9.heap.size, 4, none⟩ = some (.bool mf) ∧ w'.cell? ⟨w9.heap.size, 5, none⟩ = some (.int .u64 ml) ∧ w'.cell? ⟨w9.heap.size, 6, none⟩ = some (.slice mwa mwl mwc) ∧ w'.cell? ⟨w9.heap.size, 7, none⟩ = some (.slice mpa mpl mpc) ∧ w'.cell? ⟨w9.heap.size, 8, none⟩ = some (.string mb) ∧ w'.cell? ⟨g, goff + j * 9, none⟩ = some (.int .i64 xm.kind) ∧ w'.cell? ⟨g, goff + j * 9 + 1, none⟩ = some (.int .i64 xm.txn) ∧ w'.cell? ⟨g, goff + j * 9 + 2, none⟩ = some (.int .i64 xm.page) ∧ w'.cell? ⟨g, goff + j * 9 + 3, none⟩ = some (.int .i64 xm.dst) ∧ w'.cell? ⟨g, goff + j * 9 + 4, none⟩ = some (.bool xm.fast) ∧ w'.cell? ⟨g, goff + j * 9 + 5, none⟩ = some (.int .u64 xm.lsn) ∧ w'.cell? ⟨g, goff + j * 9 + 6, none⟩ = some (.slice xm.wa xm.wl xm.wc) ∧ w'.cell? ⟨g, goff + j * 9 + 7, none⟩ = some (.slice xm.pa xm.pl xm.pc) ∧ w'.cell? ⟨g, goff + j * 9 + 8, none⟩ = some (.string xm.body))
                (first
                  | go_keep
                  | (go_split_ands
                     refine ⟨?_, ?_, ?_, ?_, ?_, ?_, ?_, ?_, ?_, ?_, ?_, ?_, ?_, ?_, ?_, ?_, ?_, ?_⟩
                     all_goals (refine Keep.got hkz ?_ (fun h => h); assumption)))
                (first
                  | (go_at_call 19
                     refine (same_reads ⟨mk, mt, mp, md, mf, ml, mwa, mwl, mwc, mpa, mpl, mpc, mb⟩ xm c _ (HM10.out.reads.keep (Keep.refl (fun _ => False) wa).drew (fun _ _ h => h)) (XR10.out.keep (Keep.refl (fun _ => False) wa).drew (fun _ _ h => h)) FC.out).mono ?_
                     rintro e wb ⟨rfl, hkz⟩))
              have KZ : Keep (fun _ => False) wa wb := (Keep.refl (fun _ => False) wa).drew.none_trans hkz
              have N11 := Lib.hid (N10.out.keep KZ (fun _ _ h => h))
              have K11 := Lib.hid (KA.out.none_trans KZ)
              clear KZ hkz c0 c1 c2 c3 c4 c5 c6 c7 c8 d0 d1 d2 d3 d4 d5 d6 d7 d8
              go_wp2_with fail
              go_roundw
              case rel => exact ⟨j + 1, by omega, by go_num, N11.out, K11.out⟩
              case measure => simp [intOf]; omega
            · obtain rfl : j = x := by omega
              have HE : Hid (put q iu (ys'.drop j) iu = []) := by rw [put_self]; exact List.drop_of_length_le (by rw [YL'.out]; exact Nat.le_refl _)
              go_wp2_with fail
              refine (take_empty L _ _ _ iu _ N.out RU.out HE.out).mono ?_
              rintro e w9 ⟨rfl, hk9⟩
              have N9 := Lib.hid (N.out.keep (hk9.alloc (.cells #[.int .i64 0, .int .i64 0, .int .i64 0, .int .i64 0, .bool false, .int .u64 0, .slice none 0 0, .slice none 0 0, .string ⟨#[]⟩] 33)) (fun _ _ h => h))
              have B9 := Lib.hid (keep0_below BZ.out (hk9.alloc (.cells #[.int .i64 0, .int .i64 0, .int .i64 0, .int .i64 0, .bool false, .int .u64 0, .slice none 0 0, .slice none 0 0, .string ⟨#[]⟩] 33)))
              have S9 : Hid (((sumTo (put q iu (ys'.drop j)) L.n L.n : Nat) : Int) = s - j) := by
                have h1 := sum_put q iu (ys'.drop j) L.n HI.out
                have h2 := HS.out
                have h3 := HXL.out
                have h4 := YL'.out
                rw [List.length_drop] at h1
                exact Lib.hid (by omega)
              clear hk9
              go_wp2_with fail
              refine (sum_any L _ _ N9.out).mono ?_
              rintro e w10 ⟨rfl, d, hd⟩
              have B10 : Hid (Below w.heap.size w w10) := by subst hd; exact keep0_below B9.out ((Keep.refl (fun _ => False) _).drewN d)
              clear hd
              rw [S9.out]
              go_wp2_with fail
              refine (HL.out _).mono ?_
              rintro e w' ⟨rfl, hkp⟩
              go_wp2_with fail
              go_ret
              exact ⟨rfl, keep0_below B10.out hkp⟩
  · have HN := Lib.hid (fun w => new_no n w hn)
    clear hn
    refine (HN.out _).mono ?_
    rintro e w1 ⟨rfl, rfl⟩
    go_wp2_with fail
    refine (HL.out _).mono ?_
    rintro e w' ⟨rfl, hkp⟩
    go_wp2_with fail
    go_ret
    exact ⟨rfl, keep0_below (Below.refl _ _) hkp⟩

end Go.Proofs.Ytgphlopbbmjdhaa
