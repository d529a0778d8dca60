/- The document's net: its list of items; 'Peek' of it. -/
import Derived.Test.YtgphlopbbmjdhaaSameAll
import Derived.Test.YtgphlopbbmjdhaaLawCopy
import Derived.Deep.DeepCutAuto
import Derived.Deep.RegionHeld3
import Derived.Deep.QuietTactic
import Derived.BigQuiet
namespace Go.Proofs.Ytgphlopbbmjdhaa
open Go.RowKit Go.Conc
set_option linter.unusedVariables false
set_option linter.unusedSimpArgs false

structure It where
  frm : Int
  dest : Int
  m : Qm

def It.cells (z : It) : List Value := .int .i64 z.frm :: .int .i64 z.dest :: z.m.cells
def itcells (zs : List It) : List Value := zs.flatMap It.cells

theorem itcells_append (xs ys : List It) : itcells (xs ++ ys) = itcells xs ++ itcells ys := by simp [itcells]
theorem itcells_one (x : It) : itcells [x] = x.cells := by simp [itcells]
theorem itcells_length (xs : List It) : (itcells xs).length = xs.length * 11 := by
  induction xs with
  | nil => rfl
  | cons x r ih => simp only [itcells, List.flatMap_cons, List.length_append] at ih ⊢; rw [ih]; simp [It.cells, Qm.cells]; omega
theorem It.one (z : It) : ∀ u ∈ z.cells, u.oneCell' = true := by
  intro u hu
  simp only [It.cells, List.mem_cons] at hu
  rcases hu with rfl | rfl | hu
  · rfl
  · rfl
  · exact cells_one _ u hu
theorem itcells_ones (zs : List It) : ∀ u ∈ itcells zs, u.oneCell' = true := by
  intro u hu
  simp only [itcells, List.mem_flatMap] at hu
  obtain ⟨z, _, hz⟩ := hu
  exact z.one u hz

theorem itcells_at : ∀ (xs : List It) (j : Nat) (x : It), xs[j]? = some x → ∀ i u, x.cells[i]? = some u → (itcells xs)[j * 11 + i]? = some u
  | y :: xs, 0, x, h, i, u, hu => by
    simp at h; subst h
    have hi : i < y.cells.length := (List.getElem?_eq_some_iff.1 hu).1
    simp only [itcells, List.flatMap_cons, Nat.zero_mul, Nat.zero_add]
    rw [List.getElem?_append_left hi]; exact hu
  | y :: xs, j + 1, x, h, i, u, hu => by
    have := itcells_at xs j x (by simpa using h) i u hu
    simp only [itcells, List.flatMap_cons] at this ⊢
    rw [List.getElem?_append_right (by simp [It.cells, Qm.cells]; omega)]
    rw [show (j + 1) * 11 + i - y.cells.length = j * 11 + i by simp [It.cells, Qm.cells]; omega]
    exact this

/-- Where the document's list lies. -/
structure RefAt (w : World) (base : Nat) (a : Option Addr) (n cap : Nat) (zs : List It) : Prop where
  len : zs.length = n
  row : w.ownsRow base 77 11 (.slice a n cap) n (itcells zs)

structure ItCells (w : World) (b o : Nat) (z : It) : Prop where
  c0 : w.cell? ⟨b, o, none⟩ = some (.int .i64 z.frm)
  c1 : w.cell? ⟨b, o + 1, none⟩ = some (.int .i64 z.dest)
  m : MsgCells w b (o + 2) z.m

theorem RefAt.item {w : World} {base : Nat} {a : Option Addr} {n cap : Nat} {zs : List It} (h : RefAt w base a n cap zs) {j : Nat} {z : It} (hz : zs[j]? = some z) :
    ∃ g, a = some ⟨g, 0, none⟩ ∧ ItCells w g (0 + j * 11) z := by
  rcases h.row.2 with ⟨hv, hn⟩ | ⟨g, cap', cur, hv, _⟩
  · have hl := h.row.1
    subst hn
    have := (List.getElem?_eq_some_iff.1 (itcells_at zs j z hz 0 _ rfl)).1
    omega
  · simp only [Value.slice.injEq, true_and] at hv
    obtain ⟨rfl, rfl⟩ := hv
    have hat : ∀ i u, z.cells[i]? = some u → w.cell? ⟨g, 0 + j * 11 + i, none⟩ = some u := fun i u hu => by
      have := h.row.cells rfl _ _ (itcells_at zs j z hz i u hu)
      rw [Go.WideShapes.add_plain] at this
      rwa [Nat.add_assoc]
    exact ⟨g, rfl, hat 0 _ rfl, hat 1 _ rfl, .of_at fun i u hu => by rw [Nat.add_assoc, Nat.add_comm 2 i]; exact hat (i + 2) u hu⟩

theorem RefAt.keep {S : Nat → Prop} {w w' : World} {base : Nat} {a : Option Addr} {n cap : Nat} {zs : List It} (h : RefAt w base a n cap zs) (k : Keep S w w') (hS : ∀ j, (Value.slice a n cap).ownBlock = some j → ¬ S j) : RefAt w' base a n cap zs :=
  ⟨h.len, owns_keep h.row k hS⟩

/-- The items between two places. -/
def sel (f t : Int) (zs : List It) : List It := zs.filter fun z => z.frm == f && z.dest == t

theorem sel_snoc (f t : Int) (zs : List It) (z : It) : sel f t (zs ++ [z]) = sel f t zs ++ (if z.frm = f ∧ z.dest = t then [z] else []) := by
  simp only [sel, List.filter_append, List.append_cancel_left_eq]
  by_cases h : z.frm = f ∧ z.dest = t
  · rw [if_pos h, List.filter_cons_of_pos (by simp [h])]; rfl
  · rw [if_neg h, List.filter_cons_of_neg (by simp; intro h1; exact fun h2 => h ⟨h1, h2⟩)]; rfl

set_option maxHeartbeats 2000000 in
set_option maxRecDepth 100000 in
theorem refPeek_any (n : Int) (a : Option Addr) (len cap base : Nat) (zs : List It) (f t : Int) (w : World) (h : RefAt w base a len cap zs) (hlen : len ≤ 1000000) :
    Calls Try.prog 31 #[.agg #[.int .i64 n, .slice a len cap], .int .i64 f, .int .i64 t] w fun e w' =>
      ∃ a' cap', e = .returned (.slice a' (sel f t zs).length cap') ∧ w'.ownsRow w.heap.size 33 9 (.slice a' (sel f t zs).length cap') (sel f t zs).length (allcells ((sel f t zs).map It.m)) ∧ Keep (fun _ => False) w w' := by
  obtain ⟨i0, hi0, hz0, hz1, hz2⟩ := info_parts info33'
  have HR := Lib.hid h
  have HL := Lib.hid h.len
  clear h
  go_enter Try.func31, Try.ntmps31
  go_wp2_with fail
  have BT0 : Hid (Blk (w.alloc (.cells #[.int .i64 n, .slice a len cap] 54)) w.heap.size 54 [.int .i64 n, .slice a len cap]) := heap_alloc_new _ _
  go_loopw [7, 8] (fun l i wr => ∃ (k : Nat) (a' : Option Addr) (cap' : Nat), k ≤ len ∧ i = .int .i64 k ∧ l = .slice a' (sel f t (zs.take k)).length cap' ∧ wr.ownsRow w.heap.size 33 9 (.slice a' (sel f t (zs.take k)).length cap') (sel f t (zs.take k)).length (allcells ((sel f t (zs.take k)).map It.m)) ∧ Blk wr w.heap.size 54 [.int .i64 n, .slice a len cap] ∧ Keep (fun _ => False) w wr) (fun _ i _ => len - (intOf i).toNat)
  case atStart => exact ⟨0, none, 0, Nat.zero_le _, rfl, rfl, World.ownsRow_nil _ _ _ _, BT0.out, (Keep.refl _ _).alloc _⟩
  case round =>
    obtain ⟨k, a', cap', hk, rfl, rfl, hO, hBT, hK⟩ := hrel
    have b1 := hBT.at (i := 1) rfl
    have O := Lib.hid hO
    have BT := Lib.hid hBT
    have K := Lib.hid hK
    clear hO hBT hK BT0
    rcases (by omega : k < len ∨ len ≤ k) with hlt | hge
    · obtain ⟨z, hz⟩ : ∃ z, zs[k]? = some z := ⟨_, List.getElem?_eq_getElem (by rw [HL.out]; exact hlt)⟩
      obtain ⟨g, rfl, hi⟩ := (HR.out.keep K.out (fun _ _ h => h)).item hz
      obtain ⟨zf, zd, zm⟩ := z
      have HI := Lib.hid hi
      obtain ⟨c0, c1, hm⟩ := hi
      simp only [Nat.zero_add] at c0 c1 hm
      have HZ := Lib.hid hz
      clear hz
      by_cases h1 : zf = f
      · have h1b : (zf == f) = true := by rw [beq_iff_eq]; exact h1
        have H1 := Lib.hid h1
        clear h1
        by_cases h2 : zd = t
        · have h2b : (zd == t) = true := by rw [beq_iff_eq]; exact h2
          have H2 := Lib.hid h2
          clear h2
          obtain ⟨e0, e1, e2, e3, e4, e5, e6, e7, e8⟩ := hm
          have hsl : (sel f t (zs.take k)).length ≤ 1000000 := by
            have : (sel f t (zs.take k)).length ≤ (zs.take k).length := List.length_filter_le _ _
            rw [List.length_take] at this
            omega
          have SZ : Hid (w.heap.size ≤ wr.heap.size) := K.out.size
          go_wp2_with (at_builtin; refine wpList_append_src rfl _ _ 44 rfl w.heap.size 33 i0 (.agg #[.int .i64 0, .int .i64 0, .int .i64 0, .int .i64 0, .bool false, .int .u64 0, .slice none 0 0, .slice none 0 0, .string ByteArray.empty]) 9 112 Try.underlying44 hi0 hz0 hz1 hz2 rfl (by decide) (.slice a' (sel f t (zs.take k)).length cap') (sel f t (zs.take k)).length (allcells ((sel f t (zs.take k)).map It.m)) rfl ?_ (some ⟨wr.heap.size, 0, none⟩) 1 1 zm.cells rfl ?_ (by unfold maxLen; omega) (by omega) ?_ ?_)
          · exact O.out.alloc _
          · exact src_new wr 33 _ (cells_one zm)
          · have := SZ.out; simp; omega
          intro v' w4 hown hgrow hne
          obtain ⟨a2, cap2, rfl⟩ := owns_shape hown
          clear hne
          have hs : sel f t (zs.take (k + 1)) = sel f t (zs.take k) ++ [⟨zf, zd, zm⟩] := by
            rw [List.take_add_one, HZ.out]
            exact (sel_snoc f t _ ⟨zf, zd, zm⟩).trans (by rw [if_pos (show zf = f ∧ zd = t from ⟨H1.out, H2.out⟩)])
          have K4 : Keep (fun j => (Value.slice a' (sel f t (zs.take k)).length cap').ownBlock = some j) wr w4 := ((Keep.refl _ wr).alloc _).grown hgrow (fun j hj => .inl hj)
          have BT4 := Lib.hid (BT.out.keep K4 (fun e => owns_ne O.out BT.out (by decide) e rfl))
          have K5 := Lib.hid (K.out.trans K4 (fun j e => .inr (O.out.lt j e).1))
          have O4 : Hid (w4.ownsRow w.heap.size 33 9 (.slice a2 (sel f t (zs.take (k + 1))).length cap2) (sel f t (zs.take (k + 1))).length (allcells ((sel f t (zs.take (k + 1))).map It.m))) := by
            rw [hs, List.map_append, List.length_append]
            simp only [List.map_cons, List.map_nil, List.length_cons, List.length_nil]
            rw [allcells_snoc]
            exact hown
          have LN : Hid ((sel f t (zs.take k)).length + 1 = (sel f t (zs.take (k + 1))).length) := by rw [hs]; exact Lib.hid (by simp)
          clear hs hown hgrow K4 e0 e1 e2 e3 e4 e5 e6 e7 e8 c0 c1
          rw [LN.out]
          go_wp2_with fail
          go_roundw
          case rel => exact ⟨k + 1, a2, cap2, by omega, by go_num, rfl, O4.out, BT4.out, K5.out⟩
          case measure => simp [intOf]; omega
        · have h2b : (zd == t) = false := by rw [beq_eq_false_iff_ne]; exact h2
          have H2 := Lib.hid h2
          clear h2
          go_wp2_with fail
          go_roundw
          case rel =>
            have hz := HZ.out
            have hs : sel f t (zs.take (k + 1)) = sel f t (zs.take k) := by
              rw [List.take_add_one, hz]
              exact (sel_snoc f t _ ⟨zf, zd, zm⟩).trans (by rw [if_neg (by simp only; exact fun h => H2.out h.2)]; simp)
            exact ⟨k + 1, a', cap', by omega, by go_num, by rw [hs], by rw [hs]; exact O.out, BT.out, K.out⟩
          case measure => simp [intOf]; omega
      · have h1b : (zf == f) = false := by rw [beq_eq_false_iff_ne]; exact h1
        have H1 := Lib.hid h1
        clear h1
        go_wp2_with fail
        go_roundw
        case rel =>
          have hz := HZ.out
          have hs : sel f t (zs.take (k + 1)) = sel f t (zs.take k) := by
            rw [List.take_add_one, hz]
            exact (sel_snoc f t _ ⟨zf, zd, zm⟩).trans (by rw [if_neg (by simp only; exact fun h => H1.out h.1)]; simp)
          exact ⟨k + 1, a', cap', by omega, by go_num, by rw [hs], by rw [hs]; exact O.out, BT.out, K.out⟩
        case measure => simp [intOf]; omega
    · have hs : zs.take k = zs := List.take_of_length_le (by rw [HL.out]; exact hge)
      rw [hs] at O ⊢
      go_wp2_with fail
      go_ret
      exact ⟨a', cap', rfl, O.out, K.out⟩

end Go.Proofs.Ytgphlopbbmjdhaa
