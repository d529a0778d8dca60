/- 'Push' of a heap of logs. -/
import Derived.Test.YthgkhhgabpebmaaLess
import Derived.Test.YthgkhhgabpebmaaPq
import Derived.BigRegion
import Derived.IntWalk
import Derived.Deep.CutBlock
namespace Go.Proofs.Ythgkhhgabpebmaa
open Go.RowKit
set_option linter.unusedVariables false
set_option linter.unusedSimpArgs false

set_option maxHeartbeats 4000000 in
set_option maxRecDepth 1000000 in
theorem push_any (w0 : World) (base hb : Nat) (ha : Option Addr) (n cap : Nat) (us : List Lg) (x : Lg) (w : World) (h : HeapAt w base hb ha n cap us) (ho : Ord Lg.key us) (hok : ∀ u ∈ us ++ [x], u.Ok w0) (low : Below w0.heap.size w0 w) (hbase : w0.heap.size ≤ base) (hhb : w0.heap.size ≤ hb) (hbw : base ≤ w.heap.size) (hn : n ≤ 1000000) :
    Calls Try.prog 31 #[.pointer (some ⟨hb, 0, none⟩), .slice x.a x.n x.c] w fun e w' => ∃ ha' cap' vs, e = .returned (.tuple #[]) ∧ HeapAt w' base hb ha' (n + 1) cap' vs ∧ Ord Lg.key vs ∧ vs.Perm (us ++ [x]) ∧ Keep (Heapish hb w) w w' ∧ Below w0.heap.size w0 w' := by
  obtain ⟨i0, hi0, hz0, hz1, hz2⟩ := info_parts info25
  have c0 := h.top.at (i := 0) rfl
  have c1 := h.top.at (i := 1) rfl
  have cf := h.top.free
  have H := Lib.hid h
  have HO := Lib.hid ho
  have OK := Lib.hid hok
  have LOW := Lib.hid low
  have LN := Lib.hid h.len
  clear h ho hok low
  go_enter Try.func31, Try.ntmps31
  go_wp2_with (at_builtin; refine wpList_append_src rfl _ _ 22 rfl base 25 i0 (.slice none 0 0) 1 24 Try.underlying22 hi0 hz0 hz1 hz2 rfl (by decide) (.slice ha n cap) n (us.map Lg.val) rfl ?_ (some ⟨w.heap.size, 0, none⟩) 1 1 [.slice x.a x.n x.c] rfl ?_ (by unfold maxLen; omega) (by omega) ?_ ?_)
  · exact H.out.row.alloc _
  · exact src_new w 25 1 [.slice x.a x.n x.c] rfl (by simp [Value.oneCell'])
  · simp; omega
  intro v' w1 hown hgrow hne
  obtain ⟨ha', cap', rfl⟩ := owns_shape hown
  have hne' : Value.slice ha' (n + 1) cap' ≠ .slice none 0 0 := by simp
  obtain ⟨g, cap2, e1, hg1, hg2⟩ := owns_some hown hne'
  simp only [Value.slice.injEq, true_and] at e1
  obtain ⟨rfl, rfl⟩ := e1
  clear hne hne'
  have K1 : Keep (fun b => (Value.slice ha n cap).ownBlock = some b) w w1 := ((Keep.refl _ w).alloc _).grown hgrow (fun j hj => .inl hj)
  have hnb : ∀ k, (Value.slice ha n cap).ownBlock = some k → k ≠ hb := fun k hk => owns_ne H.out.row H.out.top (by decide) hk
  have T1 := H.out.top.keep K1 (fun e => hnb hb e rfl)
  have d0 := T1.at (i := 0) rfl
  have d1 := T1.at (i := 1) rfl
  have df := T1.free
  have KS : Keep (fun b => b = hb) w1 (w1.setCell ⟨hb, 1, none⟩ (.slice (some ⟨g, 0, none⟩) (n + 1) cap')) := Keep.setCell (Keep.refl (fun b => b = hb) w1) (p := ⟨hb, 1, none⟩) (.inl rfl) _
  have T2 := T1.set 1 (.slice (some ⟨g, 0, none⟩) (n + 1) cap')
  have ngh : g ≠ hb := owns_ne hown T1 (by decide) rfl
  have R2 := owns_keep hown KS (fun j hj e => owns_ne hown T1 (by decide) hj e)
  have hmap : us.map Lg.val ++ [.slice x.a x.n x.c] = (us ++ [x]).map Lg.val := by first | (simp; done) | (simp; rfl)
  rw [hmap] at R2
  have A2 : Hid (HeapAt (w1.setCell ⟨hb, 1, none⟩ (.slice (some ⟨g, 0, none⟩) (n + 1) cap')) base hb (some ⟨g, 0, none⟩) (n + 1) cap' (us ++ [x])) := ⟨T2, R2, by simp [LN.out]⟩
  have oldrow : ∀ b, (Value.slice ha n cap).ownBlock = some b → Heapish hb w b := fun b e => .inr (owns_cells H.out.row e)
  have KW : Hid (Keep (Heapish hb w) w (w1.setCell ⟨hb, 1, none⟩ (.slice (some ⟨g, 0, none⟩) (n + 1) cap'))) := (K1.mono oldrow).trans KS (fun _ h => .inl (.inl h))
  have G0 : Hid (w0.heap.size ≤ g) := Nat.le_trans hbase hg1
  have GW : Hid (Heapish hb w g ∨ w.heap.size ≤ g) := by
    by_cases e : (Value.slice ha n cap).ownBlock = some g
    · exact .inl (oldrow g e)
    · by_cases hlt : g < w.heap.size
      · obtain ⟨cur, hc⟩ := owns_cells hown (b := g) rfl
        exact .inl (.inr ⟨cur, (K1.block g hlt e).symm.trans hc⟩)
      · exact .inr (by omega)
  have NGH := Lib.hid ngh
  have LW2 : Hid (Below w0.heap.size w0 (w1.setCell ⟨hb, 1, none⟩ (.slice (some ⟨g, 0, none⟩) (n + 1) cap'))) := (LOW.out.trans (K1.below LOW.out.size (fun b hb' e => by have := (H.out.row.lt b e).1; omega))).trans (KS.below (Nat.le_trans LOW.out.size K1.size) (fun b hb' e => by omega))
  clear hown hgrow K1 oldrow hnb T1 KS T2 ngh R2 hmap c0 c1 cf
  go_upto_block 0 with fail
  generalize w1.setCell ⟨hb, 1, none⟩ (.slice (some ⟨g, 0, none⟩) (n + 1) cap') = w2 at A2 KW LW2 ⊢
  clear d0 d1 df
  go_wp2_with fail
  go_loopw [4] (fun i wr => ∃ (j : Nat) (vs : List Lg), i = .int .i64 j ∧ j < vs.length ∧ OrdUp Lg.key vs j ∧ vs.Perm (us ++ [x]) ∧ HeapAt wr base hb (some ⟨g, 0, none⟩) (n + 1) cap' vs ∧ Keep (Heapish hb w) w wr ∧ Below w0.heap.size w0 wr) (fun i _ => (intOf i).toNat)
  case atStart => exact ⟨n, us ++ [x], rfl, by simp [LN.out], by have := OrdUp.start Lg.key HO.out x; rwa [LN.out] at this, List.Perm.refl _, A2.out, KW.out, LW2.out⟩
  case round =>
    clear A2 KW LW2
    obtain ⟨j, vs, rfl, hj, hU, hP, hA, hK, hL⟩ := hrel
    have hjn : j < n + 1 := by rw [← hA.len]; exact hj
    have d0 := hA.top.at (i := 0) rfl
    have d1 := hA.top.at (i := 1) rfl
    rcases Nat.eq_zero_or_pos j with h0 | hpos
    · subst h0
      go_wp2_with fail
      go_quiet (fail)
      go_wp2_with fail
      exact bodyPost_end (v := .tuple #[]) (by simp [results, Try.results31, go_sem]) rfl ⟨_, _, vs, rfl, ⟨hA.top, hA.row, hA.len⟩, hU.root, hP, hK.drewN _, below_drewN hL _⟩
    · obtain ⟨a, ha⟩ : ∃ a, vs[j]? = some a := ⟨_, List.getElem?_eq_getElem hj⟩
      obtain ⟨p, hp⟩ : ∃ p, p = (j - 1) / 2 := ⟨_, rfl⟩
      have hjp : j ≠ p := by omega
      have hpj : p ≠ j := by omega
      have hpl : p < j := by omega
      obtain ⟨b, hb'⟩ : ∃ b, vs[p]? = some b := ⟨_, List.getElem?_eq_getElem (by omega)⟩
      have ea : wr.cell? ⟨g, j, none⟩ = some (.slice a.a a.n a.c) := by rw [hA.row.cellAt j (by omega), List.getElem?_map, ha]; rfl
      have eb : wr.cell? ⟨g, p, none⟩ = some (.slice b.a b.n b.c) := by rw [hA.row.cellAt p (by omega), List.getElem?_map, hb']; rfl
      have q1 : IntKind.i64.wrap ((j : Int) - 1) = (j : Int) - 1 := IntWalk.i64_in _ (by omega)
      have q2 : ((j : Int) - 1).tdiv 2 = (p : Int) := by rw [Int.tdiv_eq_ediv_of_nonneg (by omega)]; omega
      have q3 : IntKind.i64.wrap (p : Int) = (p : Int) := IntWalk.i64_in _ (by omega)
      have q4 : (0 : Int) < (j : Int) := by omega
      have q5 : (p : Int) < (n : Int) + 1 := by omega
      have q6 : (j : Int) < (n : Int) + 1 := by omega
      have oka := OK.out a (hP.subset (List.mem_of_getElem? ha))
      have okb := OK.out b (hP.subset (List.mem_of_getElem? hb'))
      have HA := Lib.hid hA
      have HP := Lib.hid hP
      have HU := Lib.hid hU
      have HK := Lib.hid hK
      have HL := Lib.hid hL
      have VA := Lib.hid ha
      have VB := Lib.hid hb'
      have EP := Lib.hid hp
      have fz := hA.row.frozenAt
      by_cases hlt : Lg.key a < Lg.key b
      · have LT := Lib.hid hlt
        have LS : Hid (∀ W : World, Below w0.heap.size w0 W → Calls Try.prog 30 #[.slice a.a a.n a.c, .slice b.a b.n b.c] W fun e w' => e = .returned (.bool true) ∧ ∃ d, w' = W.drewN d) := Lib.hid (fun W hW => (less_any a b W (oka.below hW) (okb.below hW)).mono fun e w' ⟨he, hd⟩ => ⟨by rw [he, decide_eq_true hlt], hd⟩)
        clear hA hP hU hK hL ha hb' hp hlt oka okb
        go_wp2_with fail
        go_quiet ((go_at_call 30; exact Calls.quiet_of (LS.out _ (below_drewN HL.out _))))
        go_wp2_with fail
        generalize hwq : wr.drewN _ = wq
        have QA : Hid (HeapAt wq base hb (some ⟨g, 0, none⟩) (n + 1) cap' vs) := by rw [← hwq]; exact ⟨HA.out.top, HA.out.row, HA.out.len⟩
        have QK : Hid (Keep (Heapish hb w) w wq) := by rw [← hwq]; exact HK.out.drewN _
        have QL : Hid (Below w0.heap.size w0 wq) := by rw [← hwq]; exact below_drewN HL.out _
        clear d0 d1 ea eb fz HA HK HL hwq
        have d1 := QA.out.top.at (i := 1) rfl
        have ea : wq.cell? ⟨g, j, none⟩ = some (.slice a.a a.n a.c) := by rw [QA.out.row.cellAt j (by omega), List.getElem?_map, VA.out]; rfl
        have eb : wq.cell? ⟨g, p, none⟩ = some (.slice b.a b.n b.c) := by rw [QA.out.row.cellAt p (by omega), List.getElem?_map, VB.out]; rfl
        have fz := QA.out.row.frozenAt
        go_region
        have SW := QA.out.swap (i := j) (j := p) a b
        have UP := HU.out.step Lg.key (by omega) VA.out (by rw [← EP.out]; exact VB.out) LT.out
        rw [← EP.out] at UP
        have PM := (swp_perm VA.out VB.out).trans HP.out
        have KN := QK.out.trans SW.2 (fun i e => by subst e; exact GW.out)
        have LN2 := QL.out.trans (SW.2.below QL.out.size (fun b hb e => by have := G0.out; omega))
        go_wp2_with fail
        go_roundw
        case rel => exact ⟨p, swp vs j p a b, rfl, by rw [swp_length]; omega, UP, PM, ⟨SW.1.top, SW.1.row, SW.1.len⟩, KN.drew, LN2.drew⟩
        case measure => simp [intOf]; omega
      · have LS : Hid (∀ W : World, Below w0.heap.size w0 W → Calls Try.prog 30 #[.slice a.a a.n a.c, .slice b.a b.n b.c] W fun e w' => e = .returned (.bool false) ∧ ∃ d, w' = W.drewN d) := Lib.hid (fun W hW => (less_any a b W (oka.below hW) (okb.below hW)).mono fun e w' ⟨he, hd⟩ => ⟨by rw [he, decide_eq_false hlt], hd⟩)
        have ST := hU.stop Lg.key ha (by rw [← hp]; exact hb') (by omega)
        clear hA hP hU hK hL ha hb' hp hlt oka okb
        go_wp2_with fail
        go_quiet ((go_at_call 30; exact Calls.quiet_of (LS.out _ (below_drewN HL.out _))))
        go_wp2_with fail
        exact bodyPost_end (v := .tuple #[]) (by simp [results, Try.results31, go_sem]) rfl ⟨_, _, vs, rfl, ⟨HA.out.top, HA.out.row, HA.out.len⟩, ST, HP.out, HK.out.drewN _, below_drewN HL.out _⟩

end Go.Proofs.Ythgkhhgabpebmaa
