/- The walk of the law MergeHeap. -/
import Derived.Test.YthgkhhgabpebmaaLeast
import Derived.Test.YthgkhhgabpebmaaIPush
import Derived.Test.YthgkhhgabpebmaaIPop
import Derived.Test.YthgkhhgabpebmaaLives
import Derived.Deep.AppendLies
namespace Go.Proofs.Ythgkhhgabpebmaa
open Go.RowKit
set_option linter.unusedVariables false
set_option linter.unusedSimpArgs false

/-- The heap and the list beside it: the same numbers, in rows apart. -/
structure Both (w : World) (B : Nat) (ha : Option Addr) (n hcap : Nat) (us : List Int) (ia : Option Addr) (ic : Nat) (zs : List Int) : Prop where
  heap : IHeapAt w B B ha n hcap us
  ord : Ord ikey us
  perm : us.Perm zs
  row : w.ownsRow B 3 1 (.slice ia n ic) n (zs.map (Value.int .i64))
  apart : ∀ b, (Value.slice ha n hcap).ownBlock = some b → (Value.slice ia n ic).ownBlock ≠ some b

theorem Both.drewN {w : World} {B : Nat} {ha : Option Addr} {n hcap : Nat} {us : List Int} {ia : Option Addr} {ic : Nat} {zs : List Int} (h : Both w B ha n hcap us ia ic zs) (d : Nat) : Both (w.drewN d) B ha n hcap us ia ic zs :=
  ⟨⟨h.heap.top, h.heap.row, h.heap.len⟩, h.ord, h.perm, h.row, h.apart⟩

theorem Both.keep0 {w w' : World} {B : Nat} {ha : Option Addr} {n hcap : Nat} {us : List Int} {ia : Option Addr} {ic : Nat} {zs : List Int} (h : Both w B ha n hcap us ia ic zs) (k : Keep (fun _ => False) w w') : Both w' B ha n hcap us ia ic zs :=
  ⟨h.heap.keep k (fun h => h) (fun _ _ h => h), h.ord, h.perm, owns_keep h.row k (fun _ _ h => h), h.apart⟩

set_option maxHeartbeats 4000000 in
set_option maxRecDepth 1000000 in
theorem mergeHeap_walk (a b : Option Addr) (len cap tl tc : Nat) (ls : List Int) (bs : List Bool) (w : World) (hl : ls.length = len)
    (ha : ∀ j z, ls[j]? = some z → ∃ g off, a = some ⟨g, off, none⟩ ∧ w.cell? ⟨g, off + j, none⟩ = some (.int .i64 z)) (hbl : bs.length = tl)
    (hb : ∀ j z, bs[j]? = some z → ∃ g off, b = some ⟨g, off, none⟩ ∧ w.cell? ⟨g, off + j, none⟩ = some (.bool z)) (hlen : len ≤ 9223372036854775807) (htl : tl ≤ 9223372036854775807) :
    Calls Try.prog 4 #[.slice a len cap, .slice b tl tc] w fun e w' => e = .returned (.bool true) ∧ Below w.heap.size w w' := by
  obtain ⟨i0, hi0, hz0, hz1, hz2⟩ := info_parts info3
  have HA := Lib.hid ha
  have HBs := Lib.hid hb
  have HL := Lib.hid hl
  have HBL := Lib.hid hbl
  clear ha hb hl hbl
  go_enter Try.func4, Try.ntmps4
  go_wp2_with fail
  refine (newIHeap_any w).mono ?_
  rintro e w1 ⟨rfl, rfl⟩
  have A1 : Hid (Both (w.alloc (.cells #[.func (.func 14) #[] #[], .slice none 0 0] 75)) w.heap.size none 0 0 [] none 0 []) := ⟨IHeapAt.new w w.heap.size, Ord.nil _, List.Perm.refl _, World.ownsRow_nil _ _ _ _, fun b h => by simp [Value.ownBlock] at h⟩
  have B1 : Hid (Below w.heap.size w (w.alloc (.cells #[.func (.func 14) #[] #[], .slice none 0 0] 75))) := ((Keep.refl (fun _ => False) w).alloc _).below (Nat.le_refl _) (fun _ _ h => h)
  generalize w.alloc (.cells #[.func (.func 14) #[] #[], .slice none 0 0] 75) = w1 at A1 B1 ⊢
  rcases (by omega : 300 < len ∨ len ≤ 300) with hbig | hsm
  · go_wp2_with fail
    refine (lives_yes _).mono ?_
    rintro e w2 ⟨rfl, hB2⟩
    have E := keep0_below B1.out (below_keep hB2) B1.out.size
    clear hB2
    go_wp2_with fail
    go_ret
    exact ⟨rfl, E⟩
  · go_wp2_with fail
    go_loopw [6, 7] (fun iv i wr => ∃ (k : Nat) (ha : Option Addr) (n hcap : Nat) (us : List Int) (ia : Option Addr) (ic : Nat) (zs : List Int), k ≤ len ∧ n ≤ k ∧ i = .int .i64 k ∧ iv = .slice ia n ic ∧ Both wr w.heap.size ha n hcap us ia ic zs ∧ Below w.heap.size w wr) (fun _ i _ => len - (intOf i).toNat)
    case atStart => exact ⟨0, none, 0, 0, [], none, 0, [], Nat.zero_le _, Nat.le_refl _, rfl, rfl, A1.out, B1.out⟩
    case round =>
      clear A1 B1
      obtain ⟨k, ha, n, hcap, us, ia, ic, zs, hk, hnk, rfl, rfl, hBo, hB⟩ := hrel
      have BO := Lib.hid hBo
      have B := Lib.hid hB
      clear hBo hB
      rcases (by omega : k < len ∨ len ≤ k) with hlt | hge
      · obtain ⟨z, hz⟩ : ∃ z, ls[k]? = some z := ⟨_, List.getElem?_eq_getElem (by rw [HL.out]; exact hlt)⟩
        obtain ⟨g, off, rfl, hc⟩ := HA.out k z hz
        have c0 : wr.cell? ⟨g, off + k, none⟩ = some (.int .i64 z) := (B.out.cell (World.block_lt_of_cell? _ _ hc)).trans hc
        have CZ := Lib.hid hc
        clear hz hc
        go_wp2_with fail
        refine (ipush_any w w.heap.size w.heap.size ha n hcap us z wr BO.out.heap BO.out.ord (fun _ _ => trivial) B.out (Nat.le_refl _) (Nat.le_refl _) B.out.size (by omega)).mono ?_
        rintro e w2 ⟨ha2, hcap2, vs, rfl, hA2, hO2, hP2, hK2, hB2, hX2⟩
        have A2 := Lib.hid hA2
        have O2 := Lib.hid hO2
        have P2 := Lib.hid hP2
        have K2 := Lib.hid hK2
        have B2 := Lib.hid hB2
        have X2 := Lib.hid hX2
        have R2 : Hid (w2.ownsRow w.heap.size 3 1 (.slice ia n ic) n (zs.map (Value.int .i64))) := owns_keep BO.out.row hK2 (fun j hj e => by
          rcases e with e | e
          · exact owns_ne BO.out.row BO.out.heap.top (by decide) hj e
          · exact BO.out.apart j e hj)
        have c2 : w2.cell? ⟨g, off + k, none⟩ = some (.int .i64 z) := (B2.out.cell (World.block_lt_of_cell? _ _ CZ.out)).trans CZ.out
        have S2 : Hid (w.heap.size ≤ w2.heap.size) := B2.out.size
        have zl : zs.length = n := by have := BO.out.row.1; simpa using this
        clear c0 hA2 hO2 hP2 hK2 hB2 hX2
        have mp : zs.map (Value.int .i64) ++ [.int .i64 z] = (zs ++ [z]).map (Value.int .i64) := by simp
        have MP := Lib.hid mp
        have ZL := Lib.hid zl
        clear mp zl
        go_wp2_with (at_builtin; refine wpList_append_lies _ rfl _ _ 31 rfl w.heap.size 3 i0 (.int .i64 0) 1 8 Try.underlying31 hi0 hz0 hz1 hz2 rfl (by decide) (.slice ia n ic) n (zs.map (Value.int .i64)) rfl ?_ ⟨w2.heap.size, 0, none⟩ 1 1 [.int .i64 z] rfl rfl ?_ (by simp [Value.oneCell']) (by decide) (by unfold maxLen; omega) (by omega) ?_ (w2.heap.size + 1) ?_ ?_)
        · exact R2.out.alloc _
        · have := cell_one_new w2 (.int .i64 z) 3; simpa using this
        · have := S2.out; simp; omega
        · simp
        intro ig ic3 w3 hown hgrow hat hltg
        rw [MP.out] at hown
        have K3 : Keep (fun j => (Value.slice ia n ic).ownBlock = some j) w2 w3 := ((Keep.refl _ w2).alloc _).grown hgrow (fun j hj => .inl hj)
        have AP2 : ∀ b, (Value.slice ha2 (n + 1) hcap2).ownBlock = some b → (Value.slice ia n ic).ownBlock ≠ some b := fun b hb e => by
          rcases X2.out b hb with h | h
          · exact BO.out.apart b h e
          · have := (BO.out.row.lt b e).2; omega
        have BX : Hid (Both w3 w.heap.size ha2 (n + 1) hcap2 vs (some ⟨ig, 0, none⟩) ic3 (zs ++ [z])) := ⟨A2.out.keep K3 (fun e => owns_ne R2.out A2.out.top (by decide) e rfl) (fun b hb e => AP2 b hb e), O2.out, P2.out.trans (BO.out.perm.append_right _), hown, fun b hb e => by
          simp only [Value.ownBlock, Option.some.injEq] at e
          rcases hat with h | h
          · exact AP2 b hb (by rw [h, e])
          · have := (A2.out.row.lt b hb).2; omega⟩
        have BB : Hid (Below w.heap.size w w3) := B2.out.trans (K3.below B2.out.size (fun b hb e => by have := (R2.out.lt b e).1; omega))
        clear hown hgrow hat hltg K3 AP2 A2 O2 P2 K2 B2 R2 c2 X2 BO B
        generalize hzs : zs ++ [z] = zs1 at BX
        have HZS := Lib.hid hzs
        clear hzs MP ZL CZ
        rcases (by omega : tl ≤ k ∨ k < tl) with htk | htk
        · go_wp2_with fail
          refine (ilen_any w.heap.size w.heap.size ha2 (n + 1) hcap2 vs w3 BX.out.heap).mono ?_
          rintro e w' ⟨rfl, rfl⟩
          go_wp2_with fail
          go_roundw
          case rel => exact ⟨k + 1, ha2, n + 1, hcap2, vs, some ⟨ig, 0, none⟩, ic3, zs1, by omega, by omega, by go_num, rfl, BX.out, BB.out⟩
          case measure => simp [intOf]; omega
        · obtain ⟨tb, htb⟩ : ∃ x, bs[k]? = some x := ⟨_, List.getElem?_eq_getElem (by rw [HBL.out]; exact htk)⟩
          obtain ⟨g2, off2, rfl, hc2⟩ := HBs.out k tb htb
          have cb : w3.cell? ⟨g2, off2 + k, none⟩ = some (.bool tb) := (BB.out.cell (World.block_lt_of_cell? _ _ hc2)).trans hc2
          clear htb hc2
          cases tb
          · go_wp2_with fail
            refine (ilen_any w.heap.size w.heap.size ha2 (n + 1) hcap2 vs w3 BX.out.heap).mono ?_
            rintro e w' ⟨rfl, rfl⟩
            clear cb
            go_wp2_with fail
            go_roundw
            case rel => exact ⟨k + 1, ha2, n + 1, hcap2, vs, some ⟨ig, 0, none⟩, ic3, zs1, by omega, by omega, by go_num, rfl, BX.out, BB.out⟩
            case measure => simp [intOf]; omega
          · clear HZS
            clear zs
            obtain ⟨mm, hmm⟩ : ∃ x, vs[0]? = some x := ⟨_, List.getElem?_eq_getElem (by rw [BX.out.heap.len]; omega)⟩
            have MIN : Hid (∀ u ∈ vs, mm ≤ u) := fun u hu => by
              obtain ⟨j, hj, rfl⟩ := List.mem_iff_getElem.1 hu
              exact BX.out.ord.least ikey hmm j _ (List.getElem?_eq_getElem hj)
            have MM := Lib.hid hmm
            clear hmm
            go_wp2_with fail
            refine (ipop_some w w.heap.size w.heap.size ha2 n hcap2 vs mm w3 BX.out.heap MM.out BX.out.ord (fun _ _ => trivial) BB.out (Nat.le_refl _) (Nat.le_refl _) (by omega)).mono ?_
            rintro e w4 ⟨ha4, vt, rfl, hA4, hO4, hP4, hK4, hB4, rfl⟩
            have R4 : w4.ownsRow w.heap.size 3 1 (.slice (some ⟨ig, 0, none⟩) (n + 1) ic3) (n + 1) (zs1.map (Value.int .i64)) := owns_keep BX.out.row hK4 (fun j hj e => by
              rcases e with e | e
              · exact owns_ne BX.out.row BX.out.heap.top (by decide) hj e
              · exact BX.out.apart j e hj)
            have AP4 : Hid (∀ b, (Value.slice ha4 n hcap2).ownBlock = some b → b ≠ ig) := fun b hb e => BX.out.apart b (by cases ha4 <;> exact hb) (by rw [e]; rfl)
            have A4 := Lib.hid hA4
            have O4 := Lib.hid hO4
            have P4 := Lib.hid hP4
            have B4 := Lib.hid hB4
            have RR4 := Lib.hid R4
            have PX := Lib.hid BX.out.perm
            clear hA4 hO4 hP4 hK4 hB4 R4 BX BB
            go_wp2_with fail
            refine (least_any w.heap.size ig (n + 1) ic3 zs1 w4 RR4.out (by omega) (by omega)).mono ?_
            rintro e w5 ⟨kk, z5, rfl, hz5, hzm, d5, rfl⟩
            obtain ⟨ez, hvz⟩ := taken_perm PX.out P4.out MIN.out hz5 hzm
            subst ez
            have VZ := Lib.hid hvz
            have Z5 := Lib.hid hz5
            have zlen : zs1.length = n + 1 := by have := RR4.out.1; simpa using this
            have kkn : kk < n + 1 := by rw [← zlen]; exact (List.getElem?_eq_some_iff.1 hz5).1
            have ccap := owns_cap RR4.out
            have c5 : w4.cell? ⟨ig, kk, none⟩ = some (.int .i64 z5) := by rw [RR4.out.cellAt kk (by omega), List.getElem?_map, hz5]; rfl
            have ic5 : ic3 ≤ 9223372036854775807 := by have := ccap.2; unfold maxLen at this; exact this
            have ic6 : n + 1 ≤ ic3 := ccap.1
            clear hz5 hzm hvz ccap
            go_wp2_with fail
            generalize hwa : w4.drewN d5 = wa
            have R5 : Hid (wa.ownsRow w.heap.size 3 1 (.slice (some ⟨ig, 0, none⟩) (n + 1) ic3) (n + 1) (zs1.map (Value.int .i64))) := by rw [← hwa]; exact RR4.out
            have A5 : Hid (IHeapAt wa w.heap.size w.heap.size ha4 n hcap2 vt) := by rw [← hwa]; exact ⟨A4.out.top, A4.out.row, A4.out.len⟩
            have B5 : Hid (Below w.heap.size w wa) := by rw [← hwa]; exact below_drewN B4.out _
            clear hwa RR4 A4 B4 c5
            have NEWL : Hid (((zs1.drop (kk + 1)).map (Value.int .i64)).length = (n + 1 - (kk + 1)) * 1) := Lib.hid (by simp; omega)
            have N1 : Hid (∀ u ∈ (zs1.drop (kk + 1)).map (Value.int .i64), u.oneCell' = true) := Lib.hid (fun u hu => by obtain ⟨x, _, rfl⟩ := List.mem_map.1 hu; rfl)
            have OT : Hid (wa.drew.ownsRow w.heap.size 3 1 (.slice (some ⟨ig, 0, none⟩) kk ic3) kk ((zs1.take kk).map (Value.int .i64))) := by
              have := owns_take R5.out (m := kk) (by omega)
              rw [← List.map_take] at this
              exact this
            obtain ⟨AD, hAD, hnews⟩ : ∃ AD : Addr, (if ic3 = kk + 1 then some (⟨ig, 0, none⟩ : Addr) else some ⟨ig, kk + 1, none⟩) = some AD ∧ Hid (∀ j u, ((zs1.drop (kk + 1)).map (Value.int .i64))[j]? = some u → wa.drew.cell? (AD.add j) = some u) := by
              by_cases h : ic3 = kk + 1
              · refine ⟨⟨ig, 0, none⟩, by simp [h], Lib.hid (fun j u hu => ?_)⟩
                have := (List.getElem?_eq_some_iff.1 hu).1
                simp at this
                omega
              · refine ⟨⟨ig, kk + 1, none⟩, by simp [h], Lib.hid (fun j u hu => ?_)⟩
                rw [List.map_drop, List.getElem?_drop] at hu
                rw [Go.WideShapes.add_plain]
                have hj : kk + 1 + j < (n + 1) * 1 := by
                  have := (List.getElem?_eq_some_iff.1 hu).1
                  simp at this
                  omega
                have := R5.out.cellAt (kk + 1 + j) hj
                exact this.trans hu
            have ZLEN := Lib.hid zlen
            have kic : kk ≤ ic3 := by omega
            have hwr : IntKind.i64.wrap ((kk : Int) + 1) = (kk : Int) + 1 := IntWalk.i64_in _ (by omega)
            have hp0 : (0 : Int) ≤ (kk : Int) + 1 := by omega
            have hp1 : (kk : Int) + 1 ≤ (n : Int) + 1 := by omega
            have hp2 : ((kk : Int) + 1).toNat = kk + 1 := by omega
            clear zlen
            go_region_law (refine step_append_fits rfl (.tmp 80) (.tmp 84) 31 rfl w.heap.size 3 i0 1 Try.underlying31 hi0 hz1 ig kk ic3 ((zs1.take kk).map (Value.int .i64)) (by simp [Act.eval, Act.put]) OT.out AD (n + 1 - (kk + 1)) (ic3 - (kk + 1)) ((zs1.drop (kk + 1)).map (Value.int .i64)) (by simp [Act.eval, Act.put]) NEWL.out hnews.out N1.out (by omega) ?_; intro w6 hown6 hgrow6)
            have ekk : kk + (n + 1 - (kk + 1)) = n := by omega
            rw [ekk, ← List.map_append] at hown6
            have K6 : Keep (fun b => some ig = some b) wa w6 := ((Keep.refl (fun b => some ig = some b) wa).drew).grown hgrow6 (fun j hj => .inl hj)
            have BZ : Hid (Both w6 w.heap.size ha4 n hcap2 vt (some ⟨ig, 0, none⟩) ic3 (zs1.take kk ++ zs1.drop (kk + 1))) := ⟨A5.out.keep K6 (fun e => by simp only [Option.some.injEq] at e; exact owns_ne R5.out A5.out.top (by decide) rfl e) (fun b hb e => by simp only [Option.some.injEq] at e; exact AP4.out b hb e.symm), O4.out, VZ.out, hown6, fun b hb e => AP4.out b hb (by simpa [Value.ownBlock] using e.symm)⟩
            have BY : Hid (Below w.heap.size w w6) := B5.out.trans (K6.below B5.out.size (fun b hb e => by simp only [Option.some.injEq] at e; have := (R5.out.lt ig rfl).1; omega))
            have ekk2 : kk + (n - kk) = n := by omega
            clear hown6 hgrow6 K6 hwr hp0 hp1 hp2 hAD hnews OT NEWL N1 R5 A5 B5
            go_wp2_with fail
            refine (ilen_any w.heap.size w.heap.size ha4 n hcap2 vt w6 BZ.out.heap).mono ?_
            rintro e w' ⟨rfl, rfl⟩
            clear cb
            go_wp2_with fail
            go_roundw
            case rel => exact ⟨k + 1, ha4, n, hcap2, vt, some ⟨ig, 0, none⟩, ic3, _, by omega, by omega, by go_num, rfl, BZ.out, BY.out⟩
            case measure => simp [intOf]; omega
      · obtain rfl : k = len := by omega
        have N4 : n ≤ 300 := by omega
        go_wp2_with fail
        go_loopw [6] (fun iv wr => ∃ (ha : Option Addr) (n hcap : Nat) (us : List Int) (ia : Option Addr) (ic : Nat) (zs : List Int), n ≤ 300 ∧ iv = .slice ia n ic ∧ Both wr w.heap.size ha n hcap us ia ic zs ∧ Below w.heap.size w wr) (fun iv _ => lenOf iv)
        case atStart => exact ⟨ha, n, hcap, us, ia, ic, zs, N4, rfl, BO.out, B.out⟩
        case round =>
          clear BO B N4 hnk hge hk
          obtain ⟨ha, n, hcap, us, ia, ic, zs, hn3, rfl, hBo, hB⟩ := hrel
          have BX := Lib.hid hBo
          have BB := Lib.hid hB
          clear hBo hB
          rcases n with _ | n
          · go_wp2_with fail
            refine (ipop_none w.heap.size w.heap.size ha hcap us wr BX.out.heap).mono ?_
            rintro e w2 ⟨rfl, rfl⟩
            go_wp2_with fail
            refine (nil_push _ _).mono ?_
            rintro e w2 ⟨rfl, rfl⟩
            go_wp2_with fail
            refine (nil_pop _).mono ?_
            rintro e w2 ⟨rfl, rfl⟩
            go_wp2_with fail
            refine (ilen_any w.heap.size w.heap.size ha 0 hcap us wr BX.out.heap).mono ?_
            rintro e w2 ⟨rfl, rfl⟩
            go_wp2_with fail
            refine (nil_len _).mono ?_
            rintro e w2 ⟨rfl, rfl⟩
            go_wp2_with fail
            refine (lives_yes _).mono ?_
            rintro e w2 ⟨rfl, hB2⟩
            have E := keep0_below BB.out (below_keep hB2) BB.out.size
            clear hB2
            go_wp2_with fail
            go_ret
            exact ⟨rfl, E⟩
          · obtain ⟨ig, ic4, e4, hig1, hig2⟩ := owns_some BX.out.row (by simp)
            simp only [Value.slice.injEq, true_and] at e4
            obtain ⟨rfl, rfl⟩ := e4
            clear hig1 hig2
            obtain ⟨mm, hmm⟩ : ∃ x, us[0]? = some x := ⟨_, List.getElem?_eq_getElem (by rw [BX.out.heap.len]; omega)⟩
            have MIN : Hid (∀ u ∈ us, mm ≤ u) := fun u hu => by
              obtain ⟨j, hj, rfl⟩ := List.mem_iff_getElem.1 hu
              exact BX.out.ord.least ikey hmm j _ (List.getElem?_eq_getElem hj)
            have MM := Lib.hid hmm
            clear hmm
            go_wp2_with fail
            refine (ipop_some w w.heap.size w.heap.size ha n hcap us mm wr BX.out.heap MM.out BX.out.ord (fun _ _ => trivial) BB.out (Nat.le_refl _) (Nat.le_refl _) (by omega)).mono ?_
            rintro e w4 ⟨ha4, vt, rfl, hA4, hO4, hP4, hK4, hB4, rfl⟩
            have R4 : w4.ownsRow w.heap.size 3 1 (.slice (some ⟨ig, 0, none⟩) (n + 1) ic) (n + 1) (zs.map (Value.int .i64)) := owns_keep BX.out.row hK4 (fun j hj e => by
              rcases e with e | e
              · exact owns_ne BX.out.row BX.out.heap.top (by decide) hj e
              · exact BX.out.apart j e hj)
            have AP4 : Hid (∀ b, (Value.slice ha4 n hcap).ownBlock = some b → b ≠ ig) := fun b hb e => BX.out.apart b (by cases ha4 <;> exact hb) (by rw [e]; rfl)
            have A4 := Lib.hid hA4
            have O4 := Lib.hid hO4
            have P4 := Lib.hid hP4
            have B4 := Lib.hid hB4
            have RR4 := Lib.hid R4
            have PX := Lib.hid BX.out.perm
            clear hA4 hO4 hP4 hK4 hB4 R4 BX BB
            go_wp2_with fail
            refine (least_any w.heap.size ig (n + 1) ic zs w4 RR4.out (by omega) (by omega)).mono ?_
            rintro e w5 ⟨kk, z5, rfl, hz5, hzm, d5, rfl⟩
            obtain ⟨ez, hvz⟩ := taken_perm PX.out P4.out MIN.out hz5 hzm
            subst ez
            have VZ := Lib.hid hvz
            have Z5 := Lib.hid hz5
            have zlen : zs.length = n + 1 := by have := RR4.out.1; simpa using this
            have kkn : kk < n + 1 := by rw [← zlen]; exact (List.getElem?_eq_some_iff.1 hz5).1
            have ccap := owns_cap RR4.out
            have c5 : w4.cell? ⟨ig, kk, none⟩ = some (.int .i64 z5) := by rw [RR4.out.cellAt kk (by omega), List.getElem?_map, hz5]; rfl
            have ic5 : ic ≤ 9223372036854775807 := by have := ccap.2; unfold maxLen at this; exact this
            have ic6 : n + 1 ≤ ic := ccap.1
            clear hz5 hzm hvz ccap
            go_wp2_with fail
            generalize hwa : w4.drewN d5 = wa
            have R5 : Hid (wa.ownsRow w.heap.size 3 1 (.slice (some ⟨ig, 0, none⟩) (n + 1) ic) (n + 1) (zs.map (Value.int .i64))) := by rw [← hwa]; exact RR4.out
            have A5 : Hid (IHeapAt wa w.heap.size w.heap.size ha4 n hcap vt) := by rw [← hwa]; exact ⟨A4.out.top, A4.out.row, A4.out.len⟩
            have B5 : Hid (Below w.heap.size w wa) := by rw [← hwa]; exact below_drewN B4.out _
            clear hwa RR4 A4 B4 c5
            have NEWL : Hid (((zs.drop (kk + 1)).map (Value.int .i64)).length = (n + 1 - (kk + 1)) * 1) := Lib.hid (by simp; omega)
            have N1 : Hid (∀ u ∈ (zs.drop (kk + 1)).map (Value.int .i64), u.oneCell' = true) := Lib.hid (fun u hu => by obtain ⟨x, _, rfl⟩ := List.mem_map.1 hu; rfl)
            have OT : Hid (wa.drew.ownsRow w.heap.size 3 1 (.slice (some ⟨ig, 0, none⟩) kk ic) kk ((zs.take kk).map (Value.int .i64))) := by
              have := owns_take R5.out (m := kk) (by omega)
              rw [← List.map_take] at this
              exact this
            obtain ⟨AD, hAD, hnews⟩ : ∃ AD : Addr, (if ic = kk + 1 then some (⟨ig, 0, none⟩ : Addr) else some ⟨ig, kk + 1, none⟩) = some AD ∧ Hid (∀ j u, ((zs.drop (kk + 1)).map (Value.int .i64))[j]? = some u → wa.drew.cell? (AD.add j) = some u) := by
              by_cases h : ic = kk + 1
              · refine ⟨⟨ig, 0, none⟩, by simp [h], Lib.hid (fun j u hu => ?_)⟩
                have := (List.getElem?_eq_some_iff.1 hu).1
                simp at this
                omega
              · refine ⟨⟨ig, kk + 1, none⟩, by simp [h], Lib.hid (fun j u hu => ?_)⟩
                rw [List.map_drop, List.getElem?_drop] at hu
                rw [Go.WideShapes.add_plain]
                have hj : kk + 1 + j < (n + 1) * 1 := by
                  have := (List.getElem?_eq_some_iff.1 hu).1
                  simp at this
                  omega
                have := R5.out.cellAt (kk + 1 + j) hj
                exact this.trans hu
            have ZLEN := Lib.hid zlen
            have kic : kk ≤ ic := by omega
            have hwr : IntKind.i64.wrap ((kk : Int) + 1) = (kk : Int) + 1 := IntWalk.i64_in _ (by omega)
            have hp0 : (0 : Int) ≤ (kk : Int) + 1 := by omega
            have hp1 : (kk : Int) + 1 ≤ (n : Int) + 1 := by omega
            have hp2 : ((kk : Int) + 1).toNat = kk + 1 := by omega
            clear zlen
            go_region_law (refine step_append_fits rfl (.tmp 113) (.tmp 117) 31 rfl w.heap.size 3 i0 1 Try.underlying31 hi0 hz1 ig kk ic ((zs.take kk).map (Value.int .i64)) (by simp [Act.eval, Act.put]) OT.out AD (n + 1 - (kk + 1)) (ic - (kk + 1)) ((zs.drop (kk + 1)).map (Value.int .i64)) (by simp [Act.eval, Act.put]) NEWL.out hnews.out N1.out (by omega) ?_; intro w6 hown6 hgrow6)
            have ekk : kk + (n + 1 - (kk + 1)) = n := by omega
            rw [ekk, ← List.map_append] at hown6
            have K6 : Keep (fun b => some ig = some b) wa w6 := ((Keep.refl (fun b => some ig = some b) wa).drew).grown hgrow6 (fun j hj => .inl hj)
            have BZ : Hid (Both w6 w.heap.size ha4 n hcap vt (some ⟨ig, 0, none⟩) ic (zs.take kk ++ zs.drop (kk + 1))) := ⟨A5.out.keep K6 (fun e => by simp only [Option.some.injEq] at e; exact owns_ne R5.out A5.out.top (by decide) rfl e) (fun b hb e => by simp only [Option.some.injEq] at e; exact AP4.out b hb e.symm), O4.out, VZ.out, hown6, fun b hb e => AP4.out b hb (by simpa [Value.ownBlock] using e.symm)⟩
            have BY : Hid (Below w.heap.size w w6) := B5.out.trans (K6.below B5.out.size (fun b hb e => by simp only [Option.some.injEq] at e; have := (R5.out.lt ig rfl).1; omega))
            have ekk2 : kk + (n - kk) = n := by omega
            clear hown6 hgrow6 K6 hwr hp0 hp1 hp2 hAD hnews OT NEWL N1 R5 A5 B5
            simp only [Act.put, List.setIfInBounds_toArray, List.set_cons_succ, List.set_cons_zero, Nat.add_sub_add_right, ekk2]
            go_roundw
            case rel => first | exact ⟨ha4, n, hcap, vt, some ⟨ig, 0, none⟩, ic, _, by omega, rfl, BZ.out, BY.out⟩ | ((repeat apply Exists.intro); exact ⟨⟨ha4, n, hcap, vt, some ⟨ig, 0, none⟩, ic, _, by omega, rfl, BZ.out, BY.out⟩, rfl⟩) | (trace_state; fail)
            case measure => simp [lenOf]

end Go.Proofs.Ythgkhhgabpebmaa
