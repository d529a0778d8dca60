/- New of the net: an empty net of so many instances, or none. -/
import Derived.Test.YtgphlopbbmjdhaaLen
import Derived.Deep.AppendLies
import Derived.Deep.RegionLaw
import Derived.Deep.LoopGhost
import Derived.Deep.DeepCutAuto
namespace Go.Proofs.Ytgphlopbbmjdhaa
open Go.RowKit Go.Conc
set_option linter.unusedVariables false
set_option linter.unusedSimpArgs false

set_option maxHeartbeats 400000 in
theorem new_no (n : Int) (w : World) (h : ¬ (1 ≤ n ∧ n ≤ 8)) :
    Calls Try.prog 9 #[.int .i64 n] w fun e w' => e = .returned (.tuple #[.pointer none, .int .i64 1]) ∧ w = w' := by
  rcases (by omega : n < 1 ∨ (1 ≤ n ∧ 8 < n)) with h1 | ⟨h1, h2⟩
  all_goals
    clear h
    go_enter Try.func9, Try.ntmps9
    go_wp2
    go_ret2
    exact ⟨rfl, rfl⟩

theorem info63 : (Try.prog.info? 63).map (fun i => (i.zero, i.size, i.bytes)) = some (some (.chan none), 1, 8) := by kernel_rfl
theorem info33 : (Try.prog.info? 33).map (fun i => i.bytes) = some 112 := by kernel_rfl

theorem mk_chan (w : World) : (Instr.makeChan 63 (.int .i64 256)).run Try.prog w = .ok (.chan (some w.heap.size)) (w.alloc (.chan 256 #[] false 0 0 false)) := by
  obtain ⟨i, hi, hb⟩ := Option.map_eq_some_iff.1 info33
  exact run_makeChan (P := Try.prog) (w := w) Try.underlying63 hi .i64 256 (by omega) (by rw [hb]; omega)

/-- One side of a net in the making: its row, and its channels, all empty. -/
def Side (w : World) (b : Nat) (a : Option Addr) (k cap : Nat) (c : Nat → Nat) : Prop :=
  w.ownsRow (b + 1) 63 1 (.slice a k cap) k ((List.range k).map fun j => .chan (some (c j))) ∧ (∀ j, j < k → b < c j ∧ w.heap[c j]? = some (.chan 256 #[] false 0 0 false)) ∧ (∀ i j, i < k → j < k → c i = c j → i = j)

theorem Side.nil (w : World) (b : Nat) (c : Nat → Nat) : Side w b none 0 0 c := ⟨World.ownsRow_nil _ _ _ _, fun j hj => by omega, fun i j hi => by omega⟩

/-- A net in the making: so many rows up, so many down. -/
def Both (w0 w : World) (b ku kd : Nat) (au : Option Addr) (cau : Nat) (ad : Option Addr) (cad : Nat) (cu cd : Nat → Nat) : Prop :=
  Two w b 62 (.slice au ku cau) (.slice ad kd cad) ∧ Side w b au ku cau cu ∧ Side w b ad kd cad cd ∧ (∀ i j, i < ku → j < kd → cu i ≠ cd j) ∧
    (∀ g, (Value.slice au ku cau).ownBlock = some g → (Value.slice ad kd cad).ownBlock ≠ some g) ∧ Keep (fun _ => False) w0 w

def SomeBoth (w0 w : World) (b ku kd : Nat) : Prop := ∃ au cau ad cad cu cd, Both w0 w b ku kd au cau ad cad cu cd

theorem Side.keep {S : Nat → Prop} {w w' : World} {b : Nat} {a : Option Addr} {k cap : Nat} {c : Nat → Nat} (h : Side w b a k cap c) (K : Keep S w w') (h1 : ∀ g, (Value.slice a k cap).ownBlock = some g → ¬ S g) (h2 : ∀ j, j < k → ¬ S (c j)) : Side w' b a k cap c :=
  ⟨owns_keep h.1 K h1, fun j hj => ⟨(h.2.1 j hj).1, (K.block _ (lt_of_block (h.2.1 j hj).2) (h2 j hj)).trans (h.2.1 j hj).2⟩, h.2.2⟩

/-- A channel's block is no row's. -/
theorem Side.apart {w : World} {b : Nat} {a : Option Addr} {k cap : Nat} {c : Nat → Nat} {b' base size n : Nat} {e : TypeId} {v : Value} {xs : List Value} (h : Side w b a k cap c) (ho : w.ownsRow base e size v n xs) {j : Nat} (hj : j < k) {g : Nat} (hg : v.ownBlock = some g) : c j ≠ g := by
  intro e'
  have hc := (h.2.1 j hj).2
  rcases ho.2 with ⟨rfl, _⟩ | ⟨g', cap', cur, rfl, _, hh, _⟩
  · simp [Value.ownBlock] at hg
  · simp [Value.ownBlock] at hg
    subst hg; rw [e', hh] at hc; simp at hc

/-- One more row on one side: what the region leaves, of that side and of the other. -/
theorem side_step {w w1 : World} {b k kd : Nat} {a : Option Addr} {cap : Nat} {ad : Option Addr} {cad : Nat} {c cd : Nat → Nat} {off : Nat} {u : Value} (h : Side w b a k cap c) (hd : Side w b ad kd cad cd)
    (hne : ∀ g, (Value.slice a k cap).ownBlock = some g → (Value.slice ad kd cad).ownBlock ≠ some g) (hb : b < w.heap.size) {g cap' : Nat}
    (hown : w1.ownsRow (b + 1) 63 1 (.slice (some ⟨g, 0, none⟩) (k + 1) cap') (k + 1) (((List.range k).map fun j => .chan (some (c j))) ++ [.chan (some w.heap.size)]))
    (hgrow : (((w.alloc (.chan 256 #[] false 0 0 false)).alloc (.cells #[.chan (some w.heap.size)] 63)).drew).grownBy w1 (Value.slice a k cap).ownBlock)
    (hat : (Value.slice a k cap).ownBlock = some g ∨ g = w.heap.size + 1 + 1) :
    Side (w1.setCell ⟨b, off, none⟩ u) b (some ⟨g, 0, none⟩) (k + 1) cap' (fun j => if j = k then w.heap.size else c j) ∧ Side (w1.setCell ⟨b, off, none⟩ u) b ad kd cad cd ∧
      Keep (fun i => (Value.slice a k cap).ownBlock = some i ∨ i = b) w (w1.setCell ⟨b, off, none⟩ u) ∧ (∀ j, j < kd → cd j ≠ w.heap.size) ∧
      (Value.slice ad kd cad).ownBlock ≠ some g := by
  have K0 : Keep (fun _ => False) w (((w.alloc (.chan 256 #[] false 0 0 false)).alloc (.cells #[.chan (some w.heap.size)] 63)).drew) := (((Keep.refl _ w).alloc _).alloc _).drew
  have K1 : Keep (fun i => (Value.slice a k cap).ownBlock = some i) w w1 := (K0.mono (fun _ h => h.elim)).grown hgrow (fun i hi => .inl hi)
  have K2 : Keep (fun i => (Value.slice a k cap).ownBlock = some i ∨ i = b) w (w1.setCell ⟨b, off, none⟩ u) := Keep.setCell (K1.mono (fun _ h => .inl h)) (p := ⟨b, off, none⟩) (.inl (.inr rfl)) u
  have hlo := hown.lt g rfl
  have KS : Keep (fun i => i = b) w1 (w1.setCell ⟨b, off, none⟩ u) := Keep.setCell (Keep.refl (fun i => i = b) w1) (p := ⟨b, off, none⟩) (.inl rfl) u
  have hC : (w1.setCell ⟨b, off, none⟩ u).heap[w.heap.size]? = some (.chan 256 #[] false 0 0 false) := by
    have e1 : w1.heap[w.heap.size]? = some (.chan 256 #[] false 0 0 false) :=
      (hgrow.block _ (by simp [World.drew]; omega) (fun e => by have := (h.1.lt _ e.symm).2; omega)).trans ((Below.heap_alloc _ _ _ (by simp)).trans (heap_alloc_new w _))
    exact (KS.block _ (lt_of_block e1) (by omega)).trans e1
  refine ⟨⟨?_, fun j hj => ?_, fun i j hi hj e => ?_⟩, ?_, K2, fun j hj e => by have := lt_of_block (hd.2.1 j hj).2; omega, ?_⟩
  · have hr : ((List.range (k + 1)).map fun j => Value.chan (some (if j = k then w.heap.size else c j))) = ((List.range k).map fun j => .chan (some (c j))) ++ [.chan (some w.heap.size)] := by
      rw [List.range_succ, List.map_append]
      congr 1
      · exact List.map_congr_left (fun j hj => by rw [if_neg (by have := List.mem_range.1 hj; omega)])
      · simp
    rw [hr]
    exact owns_keep hown KS (fun j hj => by simp [Value.ownBlock] at hj; omega)
  · by_cases e : j = k
    · subst e; simp only [if_true]; exact ⟨hb, hC⟩
    · simp only [if_neg e]
      have hj' : j < k := by omega
      refine ⟨(h.2.1 j hj').1, (K2.block _ (lt_of_block (h.2.1 j hj').2) ?_).trans (h.2.1 j hj').2⟩
      rintro (e' | e')
      · exact h.apart (b' := 0) h.1 hj' e' rfl
      · have := (h.2.1 j hj').1; omega
  · by_cases ei : i = k <;> by_cases ej : j = k
    · omega
    · simp only [ei, ej, if_true, if_false] at e
      have := lt_of_block (h.2.1 j (by omega)).2; omega
    · simp only [ei, ej, if_true, if_false] at e
      have := lt_of_block (h.2.1 i (by omega)).2; omega
    · simp only [ei, ej, if_false] at e
      exact h.2.2 i j (by omega) (by omega) e
  · refine hd.keep K2 (fun g' hg' => ?_) (fun j hj => ?_)
    · rintro (e' | e')
      · exact hne g' e' hg'
      · have := (hd.1.lt g' hg').1; omega
    · rintro (e' | e')
      · exact hd.apart (b' := 0) h.1 hj e' rfl
      · have := (hd.2.1 j hj).1; omega
  · intro e'
    rcases hat with hat | hat
    · exact hne g hat e'
    · have := (hd.1.lt g e').2; omega

theorem both_up {w0 w w1 : World} {b k kd : Nat} {au : Option Addr} {cau : Nat} {ad : Option Addr} {cad : Nat} {cu cd : Nat → Nat} (h : Both w0 w b k kd au cau ad cad cu cd) (hb : w0.heap.size ≤ b) {g cap' : Nat}
    (hown : w1.ownsRow (b + 1) 63 1 (.slice (some ⟨g, 0, none⟩) (k + 1) cap') (k + 1) (((List.range k).map fun j => .chan (some (cu j))) ++ [.chan (some w.heap.size)]))
    (hgrow : (((w.alloc (.chan 256 #[] false 0 0 false)).alloc (.cells #[.chan (some w.heap.size)] 63)).drew).grownBy w1 (Value.slice au k cau).ownBlock)
    (hat : (Value.slice au k cau).ownBlock = some g ∨ g = w.heap.size + 1 + 1) (T1 : Two w1 b 62 (.slice au k cau) (.slice ad kd cad)) :
    SomeBoth w0 (w1.setCell ⟨b, 0, none⟩ (.slice (some ⟨g, 0, none⟩) (k + 1) cap')) b (k + 1) kd := by
  obtain ⟨hT, hU, hD, hdis, hne, hK⟩ := h
  obtain ⟨r1, r2, r3, r4, r5⟩ := side_step (off := 0) (u := .slice (some ⟨g, 0, none⟩) (k + 1) cap') hU hD hne hT.lt hown hgrow hat
  refine ⟨_, _, _, _, _, _, T1.setFst _, r1, r2, fun i j hi hj => ?_, fun g' hg' => ?_, hK.trans r3 (fun i hi => .inr ?_)⟩
  · by_cases e : i = k
    · simp only [e, if_true]; exact fun e' => r4 j hj e'.symm
    · simp only [if_neg e]; exact hdis i j (by omega) hj
  · simp [Value.ownBlock] at hg'; subst hg'; exact r5
  · rcases hi with hi | hi
    · have := (hU.1.lt i hi).1; omega
    · omega

theorem both_down {w0 w w1 : World} {b k kd : Nat} {au : Option Addr} {cau : Nat} {ad : Option Addr} {cad : Nat} {cu cd : Nat → Nat} (h : Both w0 w b kd k au cau ad cad cu cd) (hb : w0.heap.size ≤ b) {g cap' : Nat}
    (hown : w1.ownsRow (b + 1) 63 1 (.slice (some ⟨g, 0, none⟩) (k + 1) cap') (k + 1) (((List.range k).map fun j => .chan (some (cd j))) ++ [.chan (some w.heap.size)]))
    (hgrow : (((w.alloc (.chan 256 #[] false 0 0 false)).alloc (.cells #[.chan (some w.heap.size)] 63)).drew).grownBy w1 (Value.slice ad k cad).ownBlock)
    (hat : (Value.slice ad k cad).ownBlock = some g ∨ g = w.heap.size + 1 + 1) (T1 : Two w1 b 62 (.slice au kd cau) (.slice ad k cad)) :
    SomeBoth w0 (w1.setCell ⟨b, 1, none⟩ (.slice (some ⟨g, 0, none⟩) (k + 1) cap')) b kd (k + 1) := by
  obtain ⟨hT, hU, hD, hdis, hne, hK⟩ := h
  obtain ⟨r1, r2, r3, r4, r5⟩ := side_step (off := 1) (u := .slice (some ⟨g, 0, none⟩) (k + 1) cap') hD hU (fun g' hg' e => hne g' e hg') hT.lt hown hgrow hat
  refine ⟨_, _, _, _, _, _, T1.setSnd _, r2, r1, fun i j hi hj => ?_, fun g' hg' e => ?_, hK.trans r3 (fun i hi => .inr ?_)⟩
  · by_cases e : j = k
    · simp only [e, if_true]; exact fun e' => r4 i hi e'
    · simp only [if_neg e]; exact hdis i j hi (by omega)
  · simp [Value.ownBlock] at e; subst e; exact r5 hg'
  · rcases hi with hi | hi
    · have := (hD.1.lt i hi).1; omega
    · omega

theorem net_of_both {w0 w : World} {b n : Nat} (h : SomeBoth w0 w b n n) (h1 : 1 ≤ n) (h8 : n ≤ 8) (hb : w0.heap.size ≤ b) :
    ∃ L : Lay, L.b = b ∧ L.n = n ∧ NetAt w L (fun _ => []) ∧ Keep (fun _ => False) w0 w ∧ ∀ k, L.blk k → w0.heap.size ≤ k := by
  obtain ⟨au, cau, ad, cad, cu, cd, hT, hU, hD, hdis, hne, hK⟩ := h
  obtain ⟨gu, capu, eu, hgu, _⟩ := hU.1.form (by omega)
  obtain ⟨gd, capd, ed, hgd, _⟩ := hD.1.form (by omega)
  simp only [Value.slice.injEq, true_and] at eu ed
  obtain ⟨rfl, rfl⟩ := eu
  obtain ⟨rfl, rfl⟩ := ed
  have cellU : ∀ j, j < n → w.cell? ⟨gu, j, none⟩ = some (.chan (some (cu j))) := fun j hj => by
    rw [World.ownsRow.cellAt (size := 1) hU.1 j (by omega)]; simp [hj]
  have cellD : ∀ j, j < n → w.cell? ⟨gd, j, none⟩ = some (.chan (some (cd j))) := fun j hj => by
    rw [World.ownsRow.cellAt (size := 1) hD.1 j (by omega)]; simp [hj]
  refine ⟨⟨b, gu, gd, cau, cad, n, fun i => if i < n then cu i else cd (i - n)⟩, rfl, rfl, ⟨⟨h1, h8⟩, hT, fun k hk => ?_, fun k hk => ?_, fun k hk => ?_, fun k hk => by simp, fun i j hi hj e => ?_⟩, hK, ?_⟩
  · simp only at hk ⊢; rw [if_pos hk]; exact cellU k hk
  · simp only at hk ⊢; rw [if_neg (by omega), show n + k - n = k by omega]; exact cellD k hk
  · simp only at hk ⊢
    by_cases hlt : k < n
    · rw [if_pos hlt]; exact ⟨0, 0, (hU.2.1 k hlt).2⟩
    · rw [if_neg hlt]; exact ⟨0, 0, (hD.2.1 (k - n) (by omega)).2⟩
  · simp only at hi hj e
    by_cases hi' : i < n <;> by_cases hj' : j < n
    · rw [if_pos hi', if_pos hj'] at e; exact hU.2.2 i j hi' hj' e
    · rw [if_pos hi', if_neg hj'] at e; exact absurd e (hdis i (j - n) hi' (by omega))
    · rw [if_neg hi', if_pos hj'] at e; exact absurd e.symm (hdis j (i - n) hj' (by omega))
    · rw [if_neg hi', if_neg hj'] at e; have := hD.2.2 (i - n) (j - n) (by omega) (by omega) e; omega
  · rintro k (rfl | rfl | rfl | ⟨i, hi, rfl⟩)
    · exact hb
    · exact Nat.le_trans hb (Nat.le_trans (Nat.le_succ b) hgu)
    · exact Nat.le_trans hb (Nat.le_trans (Nat.le_succ b) hgd)
    · simp only at hi ⊢
      by_cases hi' : i < n
      · rw [if_pos hi']; have := (hU.2.1 i hi').1; omega
      · rw [if_neg hi']; have := (hD.2.1 (i - n) (by omega)).1; omega

set_option maxHeartbeats 2000000 in
set_option maxRecDepth 100000 in
theorem new_yes (n : Nat) (w : World) (h1 : 1 ≤ n) (h8 : n ≤ 8) :
    Calls Try.prog 9 #[.int .i64 n] w fun e w' => ∃ L : Lay, e = .returned (.tuple #[.pointer (some ⟨L.b, 0, none⟩), .int .i64 0]) ∧ L.n = n ∧ NetAt w' L (fun _ => []) ∧ Keep (fun _ => False) w w' ∧ ∀ k, L.blk k → w.heap.size ≤ k := by
  obtain ⟨i0, hi, hz0, hz1, hz2⟩ := info_parts info63
  have hmk := mk_chan
  go_enter Try.func9, Try.ntmps9
  go_wp2
  go_loopw [14] (fun i wr => ∃ k : Nat, k ≤ n ∧ i = .int .i64 k ∧ SomeBoth w wr w.heap.size k k) (fun i _ => n - (intOf i).toNat)
  case atStart => exact ⟨0, Nat.zero_le _, rfl, none, 0, none, 0, fun _ => 0, fun _ => 0, Two.new _ _ _ _, Side.nil _ _ _, Side.nil _ _ _, fun i j hi => by omega, fun g hg => by simp [Value.ownBlock] at hg, (Keep.refl _ _).alloc _⟩
  case round =>
    obtain ⟨k, hk, rfl, hb⟩ := hrel
    by_cases hlt : k < n
    · have HB := Lib.hid hb
      clear hb
      go_upto_region 6 with fail
      go_cut [] (fun wx => SomeBoth w wx w.heap.size (k + 1) k)
      case first =>
        obtain ⟨au, cau, ad, cad, cu, cd, hb⟩ := HB.out
        have g1 := hb.1.fst
        have g2 := hb.1.free 0
        have hsz := hb.1.lt
        have HO := Lib.hid hb.2.1.1
        have HB' := Lib.hid hb
        clear hb
        go_region_law (refine step_append_lies _ rfl _ _ 60 rfl (w.heap.size + 1) 63 i0 (.chan none) 1 8 Try.underlying60 hi hz0 hz1 hz2 rfl (by decide) (.slice au k cau) k _ rfl (by exact (HO.out.alloc _).alloc _) ⟨wr.heap.size + 1, 0, none⟩ 1 1 [.chan (some wr.heap.size)] rfl rfl (by have := cell_one_new (wr.alloc (.chan 256 #[] false 0 0 false)) (.chan (some wr.heap.size)) 63; simpa using this) (by simp [Value.oneCell']) (by decide) (by unfold maxLen; omega) (by omega) (by simp [World.drew]; omega) (wr.heap.size + 1 + 1) (by simp [World.drew]) ?_; intro g cap w1 hown hgrow hat hlt; have T1 : Two w1 w.heap.size 62 (.slice au k cau) (.slice ad k cad) := (hgrow.block _ (by simp [World.drew]; omega) (fun e => by have := (HO.out.lt _ e.symm).1; omega)).trans ((Below.heap_alloc _ _ _ (by simp; omega)).trans ((Below.heap_alloc _ _ _ hsz).trans HB'.out.1)); have p1 := T1.fst; have p2 := T1.free 0)
        all_goals (go_wp2_with fail; go_meet; exact both_up HB'.out (Nat.le_refl _) hown hgrow hat T1)
      case rest =>
        obtain ⟨au, cau, ad, cad, cu, cd, hb⟩ := hcut
        have g1 := hb.1.snd
        have g2 := hb.1.free 1
        have hsz := hb.1.lt
        have HO := Lib.hid hb.2.2.1.1
        have HB' := Lib.hid hb
        clear hb
        go_wp2_with fail
        go_region_law (refine step_append_lies _ rfl _ _ 60 rfl (w.heap.size + 1) 63 i0 (.chan none) 1 8 Try.underlying60 hi hz0 hz1 hz2 rfl (by decide) (.slice ad k cad) k _ rfl (by exact (HO.out.alloc _).alloc _) ⟨wc.heap.size + 1, 0, none⟩ 1 1 [.chan (some wc.heap.size)] rfl rfl (by have := cell_one_new (wc.alloc (.chan 256 #[] false 0 0 false)) (.chan (some wc.heap.size)) 63; simpa using this) (by simp [Value.oneCell']) (by decide) (by unfold maxLen; omega) (by omega) (by simp [World.drew]; omega) (wc.heap.size + 1 + 1) (by simp [World.drew]) ?_; intro g cap w1 hown hgrow hat hlt; have T1 : Two w1 w.heap.size 62 (.slice au (k + 1) cau) (.slice ad k cad) := (hgrow.block _ (by simp [World.drew]; omega) (fun e => by have := (HO.out.lt _ e.symm).1; omega)).trans ((Below.heap_alloc _ _ _ (by simp; omega)).trans ((Below.heap_alloc _ _ _ hsz).trans HB'.out.1)); have p1 := T1.snd; have p2 := T1.free 1)
        all_goals
          have HC := Lib.hid (both_down HB'.out (Nat.le_refl _) hown hgrow hat T1)
          clear hown hgrow hat T1 p1 p2 hlt
          go_wp2_with fail
          go_roundw
          case rel => exact ⟨k + 1, by omega, by go_num, HC.out⟩
          case measure => simp [intOf]; omega
    · have : k = n := by omega
      subst this
      have HN := Lib.hid (net_of_both hb h1 h8 (Nat.le_refl _))
      clear hb
      go_wp2_with fail
      go_ret2
      obtain ⟨L, hL, hn, hN, hK, hB⟩ := HN.out
      exact ⟨L, by rw [hL]; rfl, hn, hN, hK, hB⟩

end Go.Proofs.Ytgphlopbbmjdhaa
