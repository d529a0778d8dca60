/- 'Len' and 'Pop' of a heap of logs. -/
import Derived.Test.YthgkhhgabpebmaaLess
import Derived.Test.YthgkhhgabpebmaaPq
import Derived.BigRegion
import Derived.IntWalk
import Derived.Deep.CutBlock
namespace Go.Proofs.Ythgkhhgabpebmaa
open Go.RowKit
set_option linter.unusedVariables false
set_option linter.unusedSimpArgs false

set_option maxHeartbeats 400000 in
theorem len_any (base hb : Nat) (ha : Option Addr) (n cap : Nat) (us : List Lg) (w : World) (h : HeapAt w base hb ha n cap us) :
    Calls Try.prog 35 #[.pointer (some ⟨hb, 0, none⟩)] w fun e w' => e = .returned (.int .i64 n) ∧ w = w' := by
  have c1 := h.top.at (i := 1) rfl
  clear h
  go_enter Try.func35, Try.ntmps35
  go_wp2
  go_ret
  exact ⟨rfl, rfl⟩

set_option maxHeartbeats 400000 in
theorem pop_none (base hb : Nat) (ha : Option Addr) (cap : Nat) (us : List Lg) (w : World) (h : HeapAt w base hb ha 0 cap us) :
    Calls Try.prog 32 #[.pointer (some ⟨hb, 0, none⟩)] w fun e w' => e = .returned (.tuple #[.slice none 0 0, .bool false]) ∧ w = w' := by
  have H := Lib.hid h
  clear h
  go_enter Try.func32, Try.ntmps32
  go_wp2_with fail
  refine (len_any base hb ha 0 cap us _ H.out).mono ?_
  rintro e w' ⟨rfl, rfl⟩
  go_wp2_with fail
  go_ret2
  exact ⟨rfl, rfl⟩

set_option maxHeartbeats 4000000 in
set_option maxRecDepth 1000000 in
theorem pop_some (w0 : World) (base hb : Nat) (ha : Option Addr) (n cap : Nat) (us : List Lg) (m : Lg) (w : World) (h : HeapAt w base hb ha (n + 1) cap us) (hm : us[0]? = some m) (ho : Ord Lg.key us) (hok : ∀ u ∈ us, u.Ok w0) (low : Below w0.heap.size w0 w) (hbase : w0.heap.size ≤ base) (hhb : w0.heap.size ≤ hb) (hn : n ≤ 1000000) :
    Calls Try.prog 32 #[.pointer (some ⟨hb, 0, none⟩)] w fun e w' => ∃ ha' vs, e = .returned (.tuple #[.slice m.a m.n m.c, .bool true]) ∧ HeapAt w' base hb ha' n cap vs ∧ Ord Lg.key vs ∧ (m :: vs).Perm us ∧ Keep (Heapish hb w) w w' ∧ Below w0.heap.size w0 w' := by
  have hlen := h.len
  obtain ⟨z, hz⟩ : ∃ z, us[n]? = some z := ⟨_, List.getElem?_eq_getElem (by omega)⟩
  obtain ⟨g, cap2, e1, hg1, hg2⟩ := owns_some h.row (by simp)
  simp only [Value.slice.injEq, true_and] at e1
  obtain ⟨rfl, rfl⟩ := e1
  have hcap := owns_cap h.row
  unfold maxLen at hcap
  have c0 := h.top.at (i := 0) rfl
  have c1 := h.top.at (i := 1) rfl
  have cf := h.top.free
  have rf := h.row.frozenAt
  have em : w.cell? ⟨g, 0, none⟩ = some (.slice m.a m.n m.c) := by rw [h.row.cellAt 0 (by omega), List.getElem?_map, hm]; rfl
  have ez : w.cell? ⟨g, n, none⟩ = some (.slice z.a z.n z.c) := by rw [h.row.cellAt n (by omega), List.getElem?_map, hz]; rfl
  have ngh : g ≠ hb := owns_ne h.row h.top (by decide) rfl
  have nhg : hb ≠ g := Ne.symm ngh
  -- the least taken off, the last in its place, the row cut
  have KE : ∀ (W : World) (q o : Nat) (u : Value), Keep (fun k => k = q) W (W.setCell ⟨q, o, none⟩ u) := fun W q o u => Keep.setCell (Keep.refl (fun k => k = q) W) (p := ⟨q, o, none⟩) (.inl rfl) u
  have r1 := (h.row.stored 0 (.slice z.a z.n z.c)).1
  have r2 := owns_take r1 (Nat.le_succ n)
  have t1 := h.top.keep (KE w g 0 (.slice z.a z.n z.c)) nhg
  have t2 := t1.set 1 (.slice (some ⟨g, 0, none⟩) n cap)
  have r3 := owns_keep r2 (KE _ hb 1 (.slice (some ⟨g, 0, none⟩) n cap)) (fun j hj e => by simp [Value.ownBlock] at hj; omega)
  have hmap : ((us.map Lg.val).set 0 (.slice z.a z.n z.c)).take n = ((us.set 0 z).take n).map Lg.val := by first | (rw [List.map_take, List.map_set]; done) | (rw [List.map_take, List.map_set]; rfl)
  rw [hmap] at r3
  have A2 : Hid (HeapAt ((w.setCell ⟨g, 0, none⟩ (.slice z.a z.n z.c)).setCell ⟨hb, 1, none⟩ (.slice (some ⟨g, 0, none⟩) n cap)) base hb (some ⟨g, 0, none⟩) n cap ((us.set 0 z).take n)) := ⟨t2, r3, by simp; omega⟩
  have D2 : Hid (OrdDown Lg.key ((us.set 0 z).take n) 0) := OrdDown.start Lg.key ho hlen
  have P2 : Hid ((m :: (us.set 0 z).take n).Perm us) := pop_start hlen hm hz
  have GW : Hid (Heapish hb w g) := .inr (owns_cells h.row rfl)
  have G0 : Hid (w0.heap.size ≤ g) := Nat.le_trans hbase hg1
  have k2 : Keep (fun b => b = g ∨ b = hb) w ((w.setCell ⟨g, 0, none⟩ (.slice z.a z.n z.c)).setCell ⟨hb, 1, none⟩ (.slice (some ⟨g, 0, none⟩) n cap)) := ((KE w g 0 (.slice z.a z.n z.c)).mono (T := fun b => b = g ∨ b = hb) (fun _ h => .inl h)).trans (KE _ hb 1 _) (fun _ h => .inl (.inr h))
  have K2 : Hid (Keep (Heapish hb w) w ((w.setCell ⟨g, 0, none⟩ (.slice z.a z.n z.c)).setCell ⟨hb, 1, none⟩ (.slice (some ⟨g, 0, none⟩) n cap))) := k2.mono (fun b e => by rcases e with e | e; exact e ▸ GW.out; exact .inl e)
  have L2 : Hid (Below w0.heap.size w0 ((w.setCell ⟨g, 0, none⟩ (.slice z.a z.n z.c)).setCell ⟨hb, 1, none⟩ (.slice (some ⟨g, 0, none⟩) n cap))) := low.trans (k2.below low.size (fun b hb e => by have := G0.out; omega))
  have H := Lib.hid h
  have OK := Lib.hid hok
  have LZ : ((n : Int) + 1 == 0) = false := by rw [beq_eq_false_iff_ne]; omega
  clear h hm ho hok low hz KE r1 r2 r3 t1 t2 hmap k2 hlen
  go_enter Try.func32, Try.ntmps32
  go_wp2_with fail
  refine (len_any base hb _ (n + 1) cap us _ H.out).mono ?_
  rintro e w' ⟨rfl, rfl⟩
  go_wp2_with fail
  go_region
  go_wp2_with fail
  have A3 : Hid (HeapAt (((w.setCell ⟨g, 0, none⟩ (.slice z.a z.n z.c)).setCell ⟨hb, 1, none⟩ (.slice (some ⟨g, 0, none⟩) n cap))).drew base hb (some ⟨g, 0, none⟩) n cap ((us.set 0 z).take n)) := ⟨A2.out.top, A2.out.row, A2.out.len⟩
  have K3 := Lib.hid K2.out.drew
  have L3 := Lib.hid L2.out.drew
  generalize (((w.setCell ⟨g, 0, none⟩ (.slice z.a z.n z.c)).setCell ⟨hb, 1, none⟩ (.slice (some ⟨g, 0, none⟩) n cap))).drew = w2 at A3 K3 L3 ⊢
  clear A2 K2 L2 c0 c1 cf rf em ez LZ H
  go_loopw [6] (fun i wr => ∃ (j : Nat) (vs : List Lg), i = .int .i64 j ∧ j ≤ n ∧ OrdDown Lg.key vs j ∧ (m :: vs).Perm us ∧ HeapAt wr base hb (some ⟨g, 0, none⟩) n cap vs ∧ Keep (Heapish hb w) w wr ∧ Below w0.heap.size w0 wr) (fun i _ => n - (intOf i).toNat)
  case atStart => exact ⟨0, (us.set 0 z).take n, rfl, Nat.zero_le _, D2.out, P2.out, A3.out, K3.out, L3.out⟩
  case round =>
    clear A3 K3 L3 D2 P2
    obtain ⟨j, vs, rfl, hj, hD, hP, hA, hK, hL⟩ := hrel
    have hvn : vs.length = n := hA.len
    rcases (by omega : n ≤ 2 * j + 1 ∨ 2 * j + 1 < n) with hge | hlt
    · have ST := hD.leaf Lg.key (by omega)
      have HA := Lib.hid hA
      have HP := Lib.hid hP
      clear hA hP hD hvn
      go_wp2_with fail
      go_ret2
      exact ⟨some ⟨g, 0, none⟩, vs, rfl, HA.out, ST, HP.out, hK, hL⟩
    · obtain ⟨a, ha⟩ : ∃ a, vs[j]? = some a := ⟨_, List.getElem?_eq_getElem (by omega)⟩
      obtain ⟨b1, hb1⟩ : ∃ b, vs[2 * j + 1]? = some b := ⟨_, List.getElem?_eq_getElem (by omega)⟩
      have d0 := hA.top.at (i := 0) rfl
      have d1 := hA.top.at (i := 1) rfl
      have ea : wr.cell? ⟨g, j, none⟩ = some (.slice a.a a.n a.c) := by rw [hA.row.cellAt j (by omega), List.getElem?_map, ha]; rfl
      have eb1 : wr.cell? ⟨g, 2 * j + 1, none⟩ = some (.slice b1.a b1.n b1.c) := by rw [hA.row.cellAt (2 * j + 1) (by omega), List.getElem?_map, hb1]; rfl
      have oka := OK.out a (hP.subset (List.mem_cons_of_mem _ (List.mem_of_getElem? ha)))
      have okb1 := OK.out b1 (hP.subset (List.mem_cons_of_mem _ (List.mem_of_getElem? hb1)))
      have HA := Lib.hid hA
      have HP := Lib.hid hP
      have HD := Lib.hid hD
      have HK := Lib.hid hK
      have HL := Lib.hid hL
      have VA := Lib.hid ha
      have VB1 := Lib.hid hb1
      have HVN := Lib.hid hvn
      have p1 : (0 : Int) ≤ 2 * (j : Int) + 1 := by omega
      have p2 : (0 : Int) ≤ 2 * (j : Int) + 1 + 1 := by omega
      have jm : (j : Int) < (n : Int) := by omega
      have c1' : 2 * (j : Int) + 1 < (n : Int) := by omega
      have e1 : (2 * (j : Int) + 1).toNat = 2 * j + 1 := by omega
      have e2 : (2 * (j : Int) + 1 + 1).toNat = 2 * j + 2 := by omega
      have q2 : IntKind.i64.wrap (2 * (j : Int) + 1 + 1) = 2 * (j : Int) + 1 + 1 := IntWalk.i64_in _ (by omega)
      clear hA hP hD hK hL ha hb1 hvn
      by_cases h2 : 2 * j + 2 < n
      · have n2 : decide (2 * (j : Int) + 1 + 1 < (n : Int)) = true := decide_eq_true (by omega)
        have n2' : 2 * (j : Int) + 1 + 1 < (n : Int) := by omega
        have n3 : (2 * j + 2 : Nat) < n := by omega
        obtain ⟨b2, hb2⟩ : ∃ b, vs[2 * j + 2]? = some b := ⟨_, List.getElem?_eq_getElem (by have := HVN.out; omega)⟩
        have VB2 := Lib.hid hb2
        have eb2 : wr.cell? ⟨g, 2 * j + 2, none⟩ = some (.slice b2.a b2.n b2.c) := by rw [HA.out.row.cellAt (2 * j + 2) (by omega), List.getElem?_map, hb2]; rfl
        have okb2 := OK.out b2 (HP.out.subset (List.mem_cons_of_mem _ (List.mem_of_getElem? hb2)))
        clear hb2
        by_cases hch : Lg.key b2 < Lg.key b1
        · have LE : Hid (Lesser Lg.key vs j (2 * j + 2) b2) := lesser_right Lg.key VB1.out VB2.out hch
          have LC : Hid (∀ W : World, Below w0.heap.size w0 W → Calls Try.prog 30 #[.slice b2.a b2.n b2.c, .slice b1.a b1.n b1.c] W fun e w' => e = .returned (.bool true) ∧ ∃ d, w' = W.drewN d) := Lib.hid (fun W hW => (less_any b2 b1 W (okb2.below hW) (okb1.below hW)).mono fun e w' ⟨he, hd⟩ => ⟨by rw [he, decide_eq_true hch], hd⟩)
          clear hch
          by_cases hgo : Lg.key b2 < Lg.key a
          · have LG : Hid (∀ W : World, Below w0.heap.size w0 W → Calls Try.prog 30 #[.slice b2.a b2.n b2.c, .slice a.a a.n a.c] W fun e w' => e = .returned (.bool true) ∧ ∃ d, w' = W.drewN d) := Lib.hid (fun W hW => (less_any b2 a W (okb2.below hW) (oka.below hW)).mono fun e w' ⟨he, hd⟩ => ⟨by rw [he, decide_eq_true hgo], hd⟩)
            have LT := Lib.hid hgo
            clear hgo
            go_wp2_with fail
            go_quiet ((go_at_call 30; exact Calls.quiet_of (LC.out _ (below_drewN HL.out _))))
            go_wp2_with fail
            generalize hwa : wr.drewN _ = wa
            have HA2 : Hid (HeapAt wa base hb (some ⟨g, 0, none⟩) n cap vs) := by rw [← hwa]; exact ⟨HA.out.top, HA.out.row, HA.out.len⟩
            have HK2 : Hid (Keep (Heapish hb w) w wa) := by rw [← hwa]; exact HK.out.drewN _
            have HL2 : Hid (Below w0.heap.size w0 wa) := by rw [← hwa]; exact below_drewN HL.out _
            clear d0 d1 HA HK HL hwa ea eb1 eb2
            have d0 := HA2.out.top.at (i := 0) rfl
            have d1 := HA2.out.top.at (i := 1) rfl
            have ea : wa.cell? ⟨g, j, none⟩ = some (.slice a.a a.n a.c) := by rw [HA2.out.row.cellAt j (by omega), List.getElem?_map, VA.out]; rfl
            have eb : wa.cell? ⟨g, 2 * j + 2, none⟩ = some (.slice b2.a b2.n b2.c) := by rw [HA2.out.row.cellAt (2 * j + 2) (by omega), List.getElem?_map, LE.out.1]; rfl
            go_quiet ((go_at_call 30; exact Calls.quiet_of (LG.out _ (below_drewN HL2.out _))))
            go_wp2_with fail
            generalize hwq : wa.drewN _ = wq
            have QA : Hid (HeapAt wq base hb (some ⟨g, 0, none⟩) n cap vs) := by rw [← hwq]; exact ⟨HA2.out.top, HA2.out.row, HA2.out.len⟩
            have QK : Hid (Keep (Heapish hb w) w wq) := by rw [← hwq]; exact HK2.out.drewN _
            have QL : Hid (Below w0.heap.size w0 wq) := by rw [← hwq]; exact below_drewN HL2.out _
            clear d0 d1 HA2 HK2 HL2 hwq ea eb
            have d1 := QA.out.top.at (i := 1) rfl
            have ea : wq.cell? ⟨g, j, none⟩ = some (.slice a.a a.n a.c) := by rw [QA.out.row.cellAt j (by omega), List.getElem?_map, VA.out]; rfl
            have eb : wq.cell? ⟨g, 2 * j + 2, none⟩ = some (.slice b2.a b2.n b2.c) := by rw [QA.out.row.cellAt (2 * j + 2) (by omega), List.getElem?_map, LE.out.1]; rfl
            have fz := QA.out.row.frozenAt
            have ne1 : j ≠ 2 * j + 2 := by omega
            have ne2 : 2 * j + 2 ≠ j := by omega
            go_region
            have SW := QA.out.swap (i := j) (j := 2 * j + 2) a b2
            have DN := HD.out.step Lg.key LE.out VA.out LT.out
            have PM := ((swp_perm VA.out LE.out.1).cons m).trans HP.out
            have KN := QK.out.trans SW.2 (fun i e => .inl (by subst e; exact GW.out))
            have LN2 := QL.out.trans (SW.2.below QL.out.size (fun b hb e => by have := G0.out; omega))
            go_wp2_with fail
            go_roundw
            case rel => exact ⟨2 * j + 2, swp vs j (2 * j + 2) a b2, by go_num, by omega, DN, PM, ⟨SW.1.top, SW.1.row, SW.1.len⟩, KN.drew, LN2.drew⟩
            case measure => simp [intOf]; omega
          · have LG : Hid (∀ W : World, Below w0.heap.size w0 W → Calls Try.prog 30 #[.slice b2.a b2.n b2.c, .slice a.a a.n a.c] W fun e w' => e = .returned (.bool false) ∧ ∃ d, w' = W.drewN d) := Lib.hid (fun W hW => (less_any b2 a W (okb2.below hW) (oka.below hW)).mono fun e w' ⟨he, hd⟩ => ⟨by rw [he, decide_eq_false hgo], hd⟩)
            have ST := HD.out.done Lg.key LE.out VA.out (by omega)
            clear hgo
            go_wp2_with fail
            go_quiet ((go_at_call 30; exact Calls.quiet_of (LC.out _ (below_drewN HL.out _))))
            go_wp2_with fail
            generalize hwa : wr.drewN _ = wa
            have HA2 : Hid (HeapAt wa base hb (some ⟨g, 0, none⟩) n cap vs) := by rw [← hwa]; exact ⟨HA.out.top, HA.out.row, HA.out.len⟩
            have HK2 : Hid (Keep (Heapish hb w) w wa) := by rw [← hwa]; exact HK.out.drewN _
            have HL2 : Hid (Below w0.heap.size w0 wa) := by rw [← hwa]; exact below_drewN HL.out _
            clear d0 d1 HA HK HL hwa ea eb1 eb2
            have d0 := HA2.out.top.at (i := 0) rfl
            have d1 := HA2.out.top.at (i := 1) rfl
            have ea : wa.cell? ⟨g, j, none⟩ = some (.slice a.a a.n a.c) := by rw [HA2.out.row.cellAt j (by omega), List.getElem?_map, VA.out]; rfl
            have eb : wa.cell? ⟨g, 2 * j + 2, none⟩ = some (.slice b2.a b2.n b2.c) := by rw [HA2.out.row.cellAt (2 * j + 2) (by omega), List.getElem?_map, LE.out.1]; rfl
            go_quiet ((go_at_call 30; exact Calls.quiet_of (LG.out _ (below_drewN HL2.out _))))
            go_wp2_with fail
            go_ret2
            exact ⟨some ⟨g, 0, none⟩, vs, rfl, ⟨HA2.out.top, HA2.out.row, HA2.out.len⟩, ST, HP.out, HK2.out.drewN _, below_drewN HL2.out _⟩
        · have LE : Hid (Lesser Lg.key vs j (2 * j + 1) b1) := lesser_left Lg.key VB1.out VB2.out hch
          have LC : Hid (∀ W : World, Below w0.heap.size w0 W → Calls Try.prog 30 #[.slice b2.a b2.n b2.c, .slice b1.a b1.n b1.c] W fun e w' => e = .returned (.bool false) ∧ ∃ d, w' = W.drewN d) := Lib.hid (fun W hW => (less_any b2 b1 W (okb2.below hW) (okb1.below hW)).mono fun e w' ⟨he, hd⟩ => ⟨by rw [he, decide_eq_false hch], hd⟩)
          clear hch
          by_cases hgo : Lg.key b1 < Lg.key a
          · have LG : Hid (∀ W : World, Below w0.heap.size w0 W → Calls Try.prog 30 #[.slice b1.a b1.n b1.c, .slice a.a a.n a.c] W fun e w' => e = .returned (.bool true) ∧ ∃ d, w' = W.drewN d) := Lib.hid (fun W hW => (less_any b1 a W (okb1.below hW) (oka.below hW)).mono fun e w' ⟨he, hd⟩ => ⟨by rw [he, decide_eq_true hgo], hd⟩)
            have LT := Lib.hid hgo
            clear hgo
            go_wp2_with fail
            go_quiet ((go_at_call 30; exact Calls.quiet_of (LC.out _ (below_drewN HL.out _))))
            go_wp2_with fail
            generalize hwa : wr.drewN _ = wa
            have HA2 : Hid (HeapAt wa base hb (some ⟨g, 0, none⟩) n cap vs) := by rw [← hwa]; exact ⟨HA.out.top, HA.out.row, HA.out.len⟩
            have HK2 : Hid (Keep (Heapish hb w) w wa) := by rw [← hwa]; exact HK.out.drewN _
            have HL2 : Hid (Below w0.heap.size w0 wa) := by rw [← hwa]; exact below_drewN HL.out _
            clear d0 d1 HA HK HL hwa ea eb1 eb2
            have d0 := HA2.out.top.at (i := 0) rfl
            have d1 := HA2.out.top.at (i := 1) rfl
            have ea : wa.cell? ⟨g, j, none⟩ = some (.slice a.a a.n a.c) := by rw [HA2.out.row.cellAt j (by omega), List.getElem?_map, VA.out]; rfl
            have eb : wa.cell? ⟨g, 2 * j + 1, none⟩ = some (.slice b1.a b1.n b1.c) := by rw [HA2.out.row.cellAt (2 * j + 1) (by omega), List.getElem?_map, LE.out.1]; rfl
            go_quiet ((go_at_call 30; exact Calls.quiet_of (LG.out _ (below_drewN HL2.out _))))
            go_wp2_with fail
            generalize hwq : wa.drewN _ = wq
            have QA : Hid (HeapAt wq base hb (some ⟨g, 0, none⟩) n cap vs) := by rw [← hwq]; exact ⟨HA2.out.top, HA2.out.row, HA2.out.len⟩
            have QK : Hid (Keep (Heapish hb w) w wq) := by rw [← hwq]; exact HK2.out.drewN _
            have QL : Hid (Below w0.heap.size w0 wq) := by rw [← hwq]; exact below_drewN HL2.out _
            clear d0 d1 HA2 HK2 HL2 hwq ea eb
            have d1 := QA.out.top.at (i := 1) rfl
            have ea : wq.cell? ⟨g, j, none⟩ = some (.slice a.a a.n a.c) := by rw [QA.out.row.cellAt j (by omega), List.getElem?_map, VA.out]; rfl
            have eb : wq.cell? ⟨g, 2 * j + 1, none⟩ = some (.slice b1.a b1.n b1.c) := by rw [QA.out.row.cellAt (2 * j + 1) (by omega), List.getElem?_map, LE.out.1]; rfl
            have fz := QA.out.row.frozenAt
            have ne1 : j ≠ 2 * j + 1 := by omega
            have ne2 : 2 * j + 1 ≠ j := by omega
            go_region
            have SW := QA.out.swap (i := j) (j := 2 * j + 1) a b1
            have DN := HD.out.step Lg.key LE.out VA.out LT.out
            have PM := ((swp_perm VA.out LE.out.1).cons m).trans HP.out
            have KN := QK.out.trans SW.2 (fun i e => .inl (by subst e; exact GW.out))
            have LN2 := QL.out.trans (SW.2.below QL.out.size (fun b hb e => by have := G0.out; omega))
            go_wp2_with fail
            go_roundw
            case rel => exact ⟨2 * j + 1, swp vs j (2 * j + 1) a b1, by go_num, by omega, DN, PM, ⟨SW.1.top, SW.1.row, SW.1.len⟩, KN.drew, LN2.drew⟩
            case measure => simp [intOf]; omega
          · have LG : Hid (∀ W : World, Below w0.heap.size w0 W → Calls Try.prog 30 #[.slice b1.a b1.n b1.c, .slice a.a a.n a.c] W fun e w' => e = .returned (.bool false) ∧ ∃ d, w' = W.drewN d) := Lib.hid (fun W hW => (less_any b1 a W (okb1.below hW) (oka.below hW)).mono fun e w' ⟨he, hd⟩ => ⟨by rw [he, decide_eq_false hgo], hd⟩)
            have ST := HD.out.done Lg.key LE.out VA.out (by omega)
            clear hgo
            go_wp2_with fail
            go_quiet ((go_at_call 30; exact Calls.quiet_of (LC.out _ (below_drewN HL.out _))))
            go_wp2_with fail
            generalize hwa : wr.drewN _ = wa
            have HA2 : Hid (HeapAt wa base hb (some ⟨g, 0, none⟩) n cap vs) := by rw [← hwa]; exact ⟨HA.out.top, HA.out.row, HA.out.len⟩
            have HK2 : Hid (Keep (Heapish hb w) w wa) := by rw [← hwa]; exact HK.out.drewN _
            have HL2 : Hid (Below w0.heap.size w0 wa) := by rw [← hwa]; exact below_drewN HL.out _
            clear d0 d1 HA HK HL hwa ea eb1 eb2
            have d0 := HA2.out.top.at (i := 0) rfl
            have d1 := HA2.out.top.at (i := 1) rfl
            have ea : wa.cell? ⟨g, j, none⟩ = some (.slice a.a a.n a.c) := by rw [HA2.out.row.cellAt j (by omega), List.getElem?_map, VA.out]; rfl
            have eb : wa.cell? ⟨g, 2 * j + 1, none⟩ = some (.slice b1.a b1.n b1.c) := by rw [HA2.out.row.cellAt (2 * j + 1) (by omega), List.getElem?_map, LE.out.1]; rfl
            go_quiet ((go_at_call 30; exact Calls.quiet_of (LG.out _ (below_drewN HL2.out _))))
            go_wp2_with fail
            go_ret2
            exact ⟨some ⟨g, 0, none⟩, vs, rfl, ⟨HA2.out.top, HA2.out.row, HA2.out.len⟩, ST, HP.out, HK2.out.drewN _, below_drewN HL2.out _⟩
      · have n2 : decide (2 * (j : Int) + 1 + 1 < (n : Int)) = false := decide_eq_false (by omega)
        have LE : Hid (Lesser Lg.key vs j (2 * j + 1) b1) := lesser_only Lg.key VB1.out (by have := HVN.out; omega)
        by_cases hgo : Lg.key b1 < Lg.key a
        · have LG : Hid (∀ W : World, Below w0.heap.size w0 W → Calls Try.prog 30 #[.slice b1.a b1.n b1.c, .slice a.a a.n a.c] W fun e w' => e = .returned (.bool true) ∧ ∃ d, w' = W.drewN d) := Lib.hid (fun W hW => (less_any b1 a W (okb1.below hW) (oka.below hW)).mono fun e w' ⟨he, hd⟩ => ⟨by rw [he, decide_eq_true hgo], hd⟩)
          have LT := Lib.hid hgo
          clear hgo
          go_wp2_with fail
          go_quiet (fail)
          go_wp2_with fail
          generalize hwa : wr.drewN _ = wa
          have HA2 : Hid (HeapAt wa base hb (some ⟨g, 0, none⟩) n cap vs) := by rw [← hwa]; exact ⟨HA.out.top, HA.out.row, HA.out.len⟩
          have HK2 : Hid (Keep (Heapish hb w) w wa) := by rw [← hwa]; exact HK.out.drewN _
          have HL2 : Hid (Below w0.heap.size w0 wa) := by rw [← hwa]; exact below_drewN HL.out _
          clear d0 d1 HA HK HL hwa ea eb1
          have d0 := HA2.out.top.at (i := 0) rfl
          have d1 := HA2.out.top.at (i := 1) rfl
          have ea : wa.cell? ⟨g, j, none⟩ = some (.slice a.a a.n a.c) := by rw [HA2.out.row.cellAt j (by omega), List.getElem?_map, VA.out]; rfl
          have eb : wa.cell? ⟨g, 2 * j + 1, none⟩ = some (.slice b1.a b1.n b1.c) := by rw [HA2.out.row.cellAt (2 * j + 1) (by omega), List.getElem?_map, LE.out.1]; rfl
          go_quiet ((go_at_call 30; exact Calls.quiet_of (LG.out _ (below_drewN HL2.out _))))
          go_wp2_with fail
          generalize hwq : wa.drewN _ = wq
          have QA : Hid (HeapAt wq base hb (some ⟨g, 0, none⟩) n cap vs) := by rw [← hwq]; exact ⟨HA2.out.top, HA2.out.row, HA2.out.len⟩
          have QK : Hid (Keep (Heapish hb w) w wq) := by rw [← hwq]; exact HK2.out.drewN _
          have QL : Hid (Below w0.heap.size w0 wq) := by rw [← hwq]; exact below_drewN HL2.out _
          clear d0 d1 HA2 HK2 HL2 hwq ea eb
          have d1 := QA.out.top.at (i := 1) rfl
          have ea : wq.cell? ⟨g, j, none⟩ = some (.slice a.a a.n a.c) := by rw [QA.out.row.cellAt j (by omega), List.getElem?_map, VA.out]; rfl
          have eb : wq.cell? ⟨g, 2 * j + 1, none⟩ = some (.slice b1.a b1.n b1.c) := by rw [QA.out.row.cellAt (2 * j + 1) (by omega), List.getElem?_map, LE.out.1]; rfl
          have fz := QA.out.row.frozenAt
          have ne1 : j ≠ 2 * j + 1 := by omega
          have ne2 : 2 * j + 1 ≠ j := by omega
          go_region
          have SW := QA.out.swap (i := j) (j := 2 * j + 1) a b1
          have DN := HD.out.step Lg.key LE.out VA.out LT.out
          have PM := ((swp_perm VA.out LE.out.1).cons m).trans HP.out
          have KN := QK.out.trans SW.2 (fun i e => .inl (by subst e; exact GW.out))
          have LN2 := QL.out.trans (SW.2.below QL.out.size (fun b hb e => by have := G0.out; omega))
          go_wp2_with fail
          go_roundw
          case rel => exact ⟨2 * j + 1, swp vs j (2 * j + 1) a b1, by go_num, by omega, DN, PM, ⟨SW.1.top, SW.1.row, SW.1.len⟩, KN.drew, LN2.drew⟩
          case measure => simp [intOf]; omega
        · have LG : Hid (∀ W : World, Below w0.heap.size w0 W → Calls Try.prog 30 #[.slice b1.a b1.n b1.c, .slice a.a a.n a.c] W fun e w' => e = .returned (.bool false) ∧ ∃ d, w' = W.drewN d) := Lib.hid (fun W hW => (less_any b1 a W (okb1.below hW) (oka.below hW)).mono fun e w' ⟨he, hd⟩ => ⟨by rw [he, decide_eq_false hgo], hd⟩)
          have ST := HD.out.done Lg.key LE.out VA.out (by omega)
          clear hgo
          go_wp2_with fail
          go_quiet (fail)
          go_wp2_with fail
          generalize hwa : wr.drewN _ = wa
          have HA2 : Hid (HeapAt wa base hb (some ⟨g, 0, none⟩) n cap vs) := by rw [← hwa]; exact ⟨HA.out.top, HA.out.row, HA.out.len⟩
          have HK2 : Hid (Keep (Heapish hb w) w wa) := by rw [← hwa]; exact HK.out.drewN _
          have HL2 : Hid (Below w0.heap.size w0 wa) := by rw [← hwa]; exact below_drewN HL.out _
          clear d0 d1 HA HK HL hwa ea eb1
          have d0 := HA2.out.top.at (i := 0) rfl
          have d1 := HA2.out.top.at (i := 1) rfl
          have ea : wa.cell? ⟨g, j, none⟩ = some (.slice a.a a.n a.c) := by rw [HA2.out.row.cellAt j (by omega), List.getElem?_map, VA.out]; rfl
          have eb : wa.cell? ⟨g, 2 * j + 1, none⟩ = some (.slice b1.a b1.n b1.c) := by rw [HA2.out.row.cellAt (2 * j + 1) (by omega), List.getElem?_map, LE.out.1]; rfl
          go_quiet ((go_at_call 30; exact Calls.quiet_of (LG.out _ (below_drewN HL2.out _))))
          go_wp2_with fail
          go_ret2
          exact ⟨some ⟨g, 0, none⟩, vs, rfl, ⟨HA2.out.top, HA2.out.row, HA2.out.len⟩, ST, HP.out, HK2.out.drewN _, below_drewN HL2.out _⟩


end Go.Proofs.Ythgkhhgabpebmaa
