/- 'From' of the program and of the document; 'copied' of the law. -/
import Derived.Test.YthgkhhgabpebmaaLogs
namespace Go.Proofs.Ythgkhhgabpebmaa
open Go.RowKit
set_option linter.unusedVariables false
set_option linter.unusedSimpArgs false

instance : Inhabited Rq := ⟨⟨0, 0, 0, 0, 0, 0, 0, ⟨#[]⟩, ⟨#[]⟩, ⟨#[]⟩, none, 0, 0, none, 0, 0⟩⟩

/-- A list of records to be read, as a slice from which is appended. -/
theorem Recs.src {w : World} {a : Option Addr} {n c : Nat} {cs : List RC} (h : Recs w a n cs) (hnil : a = none → c = 0) : ∃ xs : List Rq, xs.length = n ∧ Each (Reads w) xs cs ∧ Src w a n c 12 (allcells xs) := by
  have hlen := h.len
  have one : ∀ j, ∃ x : Rq, ∀ c, cs[j]? = some c → ∃ g off, a = some ⟨g, off, none⟩ ∧ RecCells w g (off + j * 12) x ∧ Reads w x c := fun j => by
    rcases hc : cs[j]? with _ | c
    · exact ⟨default, fun c h => by simp at h⟩
    · obtain ⟨g, off, x, h1, h2, h3⟩ := h.get j c hc
      exact ⟨x, fun c' hc' => by simp only [Option.some.injEq] at hc'; subst hc'; exact ⟨g, off, h1, h2, h3⟩⟩
  let f : Nat → Rq := fun j => Classical.choose (one j)
  have hf : ∀ j c, cs[j]? = some c → ∃ g off, a = some ⟨g, off, none⟩ ∧ RecCells w g (off + j * 12) (f j) ∧ Reads w (f j) c := fun j => Classical.choose_spec (one j)
  have hat : ∀ j x, ((List.range n).map f)[j]? = some x → x = f j ∧ j < n := fun j x hx => by
    have hj : j < ((List.range n).map f).length := (List.getElem?_eq_some_iff.1 hx).1
    simp at hj
    rw [List.getElem?_map, List.getElem?_range hj] at hx
    simp at hx
    exact ⟨hx.symm, hj⟩
  refine ⟨(List.range n).map f, by simp, ⟨by simp [hlen], fun j x c hx hc => ?_⟩, ?_⟩
  · obtain ⟨rfl, _⟩ := hat j x hx
    obtain ⟨_, _, _, _, h3⟩ := hf j c hc
    exact h3
  · rcases a with _ | ad
    · have hn0 : n = 0 := by
        rcases Nat.eq_zero_or_pos n with h0 | hp
        · exact h0
        · obtain ⟨g, off, h1, _⟩ := hf 0 _ (List.getElem?_eq_getElem (by omega))
          simp at h1
      subst hn0
      exact .inl ⟨rfl, rfl, hnil rfl, rfl⟩
    · refine .inr ⟨ad, rfl, by rw [allcells_length]; simp, fun i u hu => ?_, allcells_one _⟩
      have hi : i < n * 12 := by
        have := (List.getElem?_eq_some_iff.1 hu).1
        rw [allcells_length] at this
        simpa using this
      have hj : i / 12 < n := by omega
      have hx : ((List.range n).map f)[i / 12]? = some (f (i / 12)) := by rw [List.getElem?_map, List.getElem?_range hj]; rfl
      obtain ⟨g, off, h1, h2, _⟩ := hf (i / 12) _ (List.getElem?_eq_getElem (by omega))
      simp only [Option.some.injEq] at h1
      subst h1
      have hcell : ∀ k v, (f (i / 12)).cells[k]? = some v → w.cell? ⟨g, off + i / 12 * 12 + k, none⟩ = some v := by
        intro k v hv
        have hk : k < 12 := by have := (List.getElem?_eq_some_iff.1 hv).1; simpa [Rq.cells] using this
        obtain ⟨c0, c1, c2, c3, c4, c5, c6, c7, c8, c9, c10, c11⟩ := h2
        match k, hk with
        | 0, _ => rw [← Option.some.inj hv]; exact c0
        | 1, _ => rw [← Option.some.inj hv]; exact c1
        | 2, _ => rw [← Option.some.inj hv]; exact c2
        | 3, _ => rw [← Option.some.inj hv]; exact c3
        | 4, _ => rw [← Option.some.inj hv]; exact c4
        | 5, _ => rw [← Option.some.inj hv]; exact c5
        | 6, _ => rw [← Option.some.inj hv]; exact c6
        | 7, _ => rw [← Option.some.inj hv]; exact c7
        | 8, _ => rw [← Option.some.inj hv]; exact c8
        | 9, _ => rw [← Option.some.inj hv]; exact c9
        | 10, _ => rw [← Option.some.inj hv]; exact c10
        | 11, _ => rw [← Option.some.inj hv]; exact c11
      obtain ⟨v, hv⟩ : ∃ v, (f (i / 12)).cells[i % 12]? = some v := ⟨_, List.getElem?_eq_getElem (by simp [Rq.cells]; omega)⟩
      have h5 := allcells_at _ _ _ hx _ _ hv
      have e : i / 12 * 12 + i % 12 = i := by omega
      rw [e, hu] at h5
      rw [h5, Go.WideShapes.add_plain]
      have h6 := hcell _ _ hv
      rwa [Nat.add_assoc, e] at h6

/-- A list of records whose own lists lie where they lay at the start. -/
structure Lent (w0 w : World) (base : Nat) (a : Option Addr) (n c : Nat) (cs : List RC) (xs : List Rq) : Prop where
  row : w.ownsRow base 59 12 (.slice a n c) n (allcells xs)
  each : Each (Reads w0) xs cs
  len : xs.length = n

theorem Lent.nil (w0 w : World) (base : Nat) : Lent w0 w base none 0 0 [] [] := ⟨World.ownsRow_nil _ _ _ _, .nil _, rfl⟩

theorem Lent.recs {w0 w : World} {base : Nat} {a : Option Addr} {n c : Nat} {cs : List RC} {xs : List Rq} (h : Lent w0 w base a n c cs xs) (hb : Below w0.heap.size w0 w) : Recs w a n cs :=
  owns_recs h.row (h.each.mono fun x c _ hx => hx.below hb)

theorem Lent.keep {S : Nat → Prop} {w0 w w' : World} {base : Nat} {a : Option Addr} {n c : Nat} {cs : List RC} {xs : List Rq} (h : Lent w0 w base a n c cs xs) (k : Keep S w w') (hS : ∀ b, (Value.slice a n c).ownBlock = some b → ¬ S b) : Lent w0 w' base a n c cs xs :=
  ⟨owns_keep h.row k hS, h.each, h.len⟩

theorem owns_nil {w : World} {base size n c : Nat} {e : TypeId} {a : Option Addr} {xs : List Value} (h : w.ownsRow base e size (.slice a n c) n xs) : (a = none → c = 0) ∧ n ≤ c ∧ c ≤ 9223372036854775807 := by
  rcases h.2 with ⟨hv, hn⟩ | ⟨g, cap, cur, hv, _, _, h1, h2, _⟩
  · simp only [Value.slice.injEq] at hv
    obtain ⟨rfl, rfl, rfl⟩ := hv
    exact ⟨fun _ => rfl, by omega, by omega⟩
  · simp only [Value.slice.injEq, true_and] at hv
    obtain ⟨rfl, rfl⟩ := hv
    unfold maxLen at h2
    exact ⟨fun h => by simp at h, h1, h2⟩

def fromOf (at_ : Int) (cs : List RC) : List RC := cs.filter fun c => decide (at_ ≤ c.lsn)

theorem from_yes {at_ : Int} {cs : List RC} {k : Nat} {c : RC} (hc : cs[k]? = some c) (h : at_ ≤ c.lsn) : fromOf at_ (cs.take (k + 1)) = fromOf at_ (cs.take k) ++ [c] := by
  rw [List.take_add_one, hc]
  simp [fromOf, h]
theorem from_no {at_ : Int} {cs : List RC} {k : Nat} {c : RC} (hc : cs[k]? = some c) (h : ¬ at_ ≤ c.lsn) : fromOf at_ (cs.take (k + 1)) = fromOf at_ (cs.take k) := by
  rw [List.take_add_one, hc]
  simp [fromOf, h]
theorem from_len (at_ : Int) (cs : List RC) (k : Nat) : (fromOf at_ (cs.take k)).length ≤ k := by
  have h1 : (fromOf at_ (cs.take k)).length ≤ (cs.take k).length := List.length_filter_le _ _
  rw [List.length_take] at h1
  omega

set_option maxHeartbeats 2000000 in
set_option maxRecDepth 100000 in
theorem lawCopied_any (a : Option Addr) (n cap : Nat) (cs : List RC) (w : World) (h : Recs w a n cs) (hnil : a = none → cap = 0) (hn : n ≤ 100000) :
    Calls Try.prog 22 #[.slice a n cap] w fun e w' => ∃ oa oc xs, e = .returned (.slice oa n oc) ∧ Lent w w' w.heap.size oa n oc cs xs ∧ Keep (fun _ => False) w w' := by
  obtain ⟨i0, hi0, hz0, hz1, hz2⟩ := info_parts info59
  obtain ⟨xs, hxl, hxe, hxs⟩ := h.src hnil
  have XE := Lib.hid hxe
  have XS := Lib.hid hxs
  have XL := Lib.hid hxl
  clear h hnil hxe hxs hxl
  go_enter Try.func22, Try.ntmps22
  go_wp2_with (at_builtin; refine wpList_append_src rfl _ _ 25 rfl w.heap.size 59 i0 (.agg #[.int .i64 0, .int .u64 0, .int .i64 0, .int .u64 0, .int .u64 0, .int .i64 0, .int .i64 0, .string ByteArray.empty, .string ByteArray.empty, .string ByteArray.empty, .slice none 0 0, .slice none 0 0]) 12 152 Try.underlying25 hi0 hz0 hz1 hz2 rfl (by decide) (.slice none 0 0) 0 [] rfl (World.ownsRow_nil _ _ _ _) a n cap (allcells xs) rfl ?_ (by unfold maxLen; omega) (by omega) (Nat.le_refl _) ?_)
  · exact XS.out
  intro v' w1 hown hgrow
  obtain ⟨oa, oc, rfl⟩ := owns_shape hown
  have K1 : Keep (fun _ => False) w w1 := (Keep.refl _ w).grown hgrow (fun j hj => by simp [Value.ownBlock] at hj)
  have O := Lib.hid hown
  clear hown hgrow
  go_wp2_with fail
  go_ret
  exact ⟨oa, oc, xs, rfl, ⟨O.out, XE.out, XL.out⟩, K1⟩

set_option maxHeartbeats 2000000 in
set_option maxRecDepth 100000 in
theorem refFrom_any (a : Option Addr) (n cap : Nat) (cs : List RC) (at_ : Int) (w : World) (h : Recs w a n cs) (hn : n ≤ 100000) :
    Calls Try.prog 25 #[.slice a n cap, .int .u64 at_] w fun e w' => ∃ oa on oc xs, e = .returned (.slice oa on oc) ∧ Lent w w' w.heap.size oa on oc (fromOf at_ cs) xs ∧ Below w.heap.size w w' := by
  obtain ⟨i0, hi0, hz0, hz1, hz2⟩ := info_parts info59
  have H := Lib.hid h
  clear h
  go_enter Try.func25, Try.ntmps25
  go_wp2_with fail
  go_loopw [5, 6] (fun o i wr => ∃ (k : Nat) (oa : Option Addr) (on oc : Nat) (xs : List Rq), k ≤ n ∧ on ≤ k ∧ i = .int .i64 k ∧ o = .slice oa on oc ∧ Lent w wr w.heap.size oa on oc (fromOf at_ (cs.take k)) xs ∧ Below w.heap.size w wr) (fun _ i _ => n - (intOf i).toNat)
  case atStart => exact ⟨0, none, 0, 0, [], Nat.zero_le _, Nat.le_refl _, rfl, rfl, Lent.nil _ _ _, Below.refl _ _⟩
  case round =>
    obtain ⟨k, oa, on, oc, xs, hk, hok, rfl, rfl, hL, hB⟩ := hrel
    have L := Lib.hid hL
    have B := Lib.hid hB
    rcases (by omega : k < n ∨ n ≤ k) with hlt | hge
    · obtain ⟨c, hc⟩ := (show ∃ c, cs[k]? = some c from ⟨_, List.getElem?_eq_getElem (by rw [H.out.len]; exact hlt)⟩)
      obtain ⟨g, off, x, rfl, hx, hr⟩ := H.out.get k c hc
      have XL := Lib.hid hr.plain.lsn
      have RD := Lib.hid hr
      have C := Lib.hid hc
      have hx2 := hx.below hB
      obtain ⟨x0, x1, x2, x3, x4, x5, x6, x7, x8, x9, x10, x11⟩ := hx2
      clear hL hB hx hr hc
      by_cases hge2 : at_ ≤ x.lsn
      · have FY := Lib.hid (from_yes C.out (by rw [← XL.out]; exact hge2))
        go_wp2_with (at_builtin; refine wpList_append_src rfl _ _ 25 rfl w.heap.size 59 i0 (.agg #[.int .i64 0, .int .u64 0, .int .i64 0, .int .u64 0, .int .u64 0, .int .i64 0, .int .i64 0, .string ByteArray.empty, .string ByteArray.empty, .string ByteArray.empty, .slice none 0 0, .slice none 0 0]) 12 152 Try.underlying25 hi0 hz0 hz1 hz2 rfl (by decide) (.slice oa on oc) on (allcells xs) rfl ?_ (some ⟨wr.heap.size, 0, none⟩) 1 1 x.cells rfl ?_ (by unfold maxLen; omega) (by omega) ?_ ?_)
        · exact L.out.row.alloc _
        · exact src_new wr 59 12 x.cells rfl x.one
        · have := B.out.size; simp; omega
        intro v' w5 hown hgrow hne
        obtain ⟨oa5, oc5, rfl⟩ := owns_shape hown
        rw [← allcells_snoc] at hown
        have K5 : Keep (fun j => (Value.slice oa on oc).ownBlock = some j) wr w5 := ((Keep.refl _ wr).alloc _).grown hgrow (fun j hj => .inl hj)
        have B5 := Lib.hid (B.out.trans (K5.below B.out.size (fun b hb e => by have := (L.out.row.lt b e).1; omega)))
        have L5 : Hid (Lent w w5 w.heap.size oa5 (on + 1) oc5 (fromOf at_ (cs.take (k + 1))) (xs ++ [x])) := ⟨hown, by rw [FY.out]; exact L.out.each.snoc RD.out, by simp [L.out.len]⟩
        clear hown hgrow hne K5 x0 x1 x2 x3 x4 x5 x6 x7 x8 x9 x10 x11
        go_wp2_with fail
        go_roundw
        case rel => exact ⟨k + 1, oa5, on + 1, oc5, _, by omega, by omega, by go_num, rfl, L5.out, B5.out⟩
        case measure => simp [intOf]; omega
      · have FN := Lib.hid (from_no C.out (by rw [← XL.out]; exact hge2))
        go_wp2_with fail
        go_roundw
        case rel => exact ⟨k + 1, oa, on, oc, xs, by omega, by omega, by go_num, rfl, by rw [FN.out]; exact L.out, B.out⟩
        case measure => simp [intOf]; omega
    · have e : cs.take k = cs := List.take_of_length_le (by rw [H.out.len]; exact hge)
      rw [e] at L
      clear hL hB
      go_wp2_with fail
      go_ret
      exact ⟨oa, on, oc, xs, rfl, L.out, B.out⟩

set_option maxHeartbeats 2000000 in
set_option maxRecDepth 100000 in
theorem from_any (a : Option Addr) (n cap : Nat) (cs : List RC) (at_ : Int) (w : World) (h : Recs w a n cs) (hf : ∀ c ∈ cs, c.few) (hn : n ≤ 100000) :
    Calls Try.prog 24 #[.slice a n cap, .int .u64 at_] w fun e w' => ∃ oa on oc xs, e = .returned (.slice oa on oc) ∧ Told w' w.heap.size oa on oc (fromOf at_ cs) xs ∧ Below w.heap.size w w' := by
  obtain ⟨i0, hi0, hz0, hz1, hz2⟩ := info_parts info59
  have H := Lib.hid h
  have F := Lib.hid hf
  clear h hf
  go_enter Try.func24, Try.ntmps24
  go_wp2_with fail
  go_loopw [5, 10] (fun o i wr => ∃ (k : Nat) (oa : Option Addr) (on oc : Nat) (xs : List Rq), k ≤ n ∧ on ≤ k ∧ i = .int .i64 k ∧ o = .slice oa on oc ∧ Told wr w.heap.size oa on oc (fromOf at_ (cs.take k)) xs ∧ Below w.heap.size w wr) (fun _ i _ => n - (intOf i).toNat)
  case atStart => exact ⟨0, none, 0, 0, [], Nat.zero_le _, Nat.le_refl _, rfl, rfl, Told.nil _ _, Below.refl _ _⟩
  case round =>
    obtain ⟨k, oa, on, oc, xs, hk, hok, rfl, rfl, hL, hB⟩ := hrel
    have L := Lib.hid hL
    have B := Lib.hid hB
    rcases (by omega : k < n ∨ n ≤ k) with hlt | hge
    · obtain ⟨c, hc⟩ := (show ∃ c, cs[k]? = some c from ⟨_, List.getElem?_eq_getElem (by rw [H.out.len]; exact hlt)⟩)
      obtain ⟨g, off, x, rfl, hx, hr⟩ := H.out.get k c hc
      have XL := Lib.hid hr.plain.lsn
      have RD := Lib.hid hr
      have C := Lib.hid hc
      have hx2 := hx.below hB
      obtain ⟨x0, x1, x2, x3, x4, x5, x6, x7, x8, x9, x10, x11⟩ := hx2
      clear hL hB hx hr hc
      go_upto_region 5 with fail
      have BX := new_one wr 59 [.int .i64 x.kind, .int .u64 x.lsn, .int .i64 x.txn, .int .u64 x.prev, .int .u64 x.undo, .int .i64 x.page, .int .i64 x.ak, .string x.akey, .string x.aold, .string x.anew, .slice x.ta x.tl x.tc, .slice x.da x.dl x.dc]
      generalize wr.alloc (.cells #[.int .i64 x.kind, .int .u64 x.lsn, .int .i64 x.txn, .int .u64 x.prev, .int .u64 x.undo, .int .i64 x.page, .int .i64 x.ak, .string x.akey, .string x.aold, .string x.anew, .slice x.ta x.tl x.tc, .slice x.da x.dl x.dc] 59) = w2 at BX ⊢
      have X2 := Lib.hid BX.1
      have L2 := Lib.hid (L.out.none BX.2)
      have B2 := Lib.hid (keep0_below B.out BX.2 B.out.size)
      clear BX x0 x1 x2 x3 x4 x5 x6 x7 x8 x9 x10 x11 L B
      generalize wr.heap.size = xb at X2 ⊢
      have x0 := X2.out.at (i := 0) rfl
      have x1 := X2.out.at (i := 1) rfl
      have x2 := X2.out.at (i := 2) rfl
      have x3 := X2.out.at (i := 3) rfl
      have x4 := X2.out.at (i := 4) rfl
      have x5 := X2.out.at (i := 5) rfl
      have x6 := X2.out.at (i := 6) rfl
      have x7 := X2.out.at (i := 7) rfl
      have x8 := X2.out.at (i := 8) rfl
      have x9 := X2.out.at (i := 9) rfl
      have x10 := X2.out.at (i := 10) rfl
      have x11 := X2.out.at (i := 11) rfl
      by_cases hge2 : at_ ≤ x.lsn
      · have FY := Lib.hid (from_yes C.out (by rw [← XL.out]; exact hge2))
        have R2 := Lib.hid (RD.out.below B2.out)
        go_wp2_with fail
        refine (copied_any x c w2 R2.out (F.out c (List.mem_of_getElem? C.out))).mono ?_
        rintro e w4 ⟨y, rfl, hk4, hy⟩
        have L4 := Lib.hid (L2.out.none hk4)
        have B4 := Lib.hid (keep0_below B2.out hk4 B2.out.size)
        have HY := Lib.hid (hy.base B2.out.size)
        clear hk4 hy x0 x1 x2 x3 x4 x5 x6 x7 x8 x9 x10 x11 X2 L2 B2 R2
        go_wp2_with (at_builtin; refine wpList_append_src rfl _ _ 25 rfl w.heap.size 59 i0 (.agg #[.int .i64 0, .int .u64 0, .int .i64 0, .int .u64 0, .int .u64 0, .int .i64 0, .int .i64 0, .string ByteArray.empty, .string ByteArray.empty, .string ByteArray.empty, .slice none 0 0, .slice none 0 0]) 12 152 Try.underlying25 hi0 hz0 hz1 hz2 rfl (by decide) (.slice oa on oc) on (allcells xs) rfl ?_ (some ⟨w4.heap.size, 0, none⟩) 1 1 y.cells rfl ?_ (by unfold maxLen; omega) (by omega) ?_ ?_)
        · exact L4.out.row.alloc _
        · exact src_new w4 59 12 y.cells rfl y.one
        · have := B4.out.size; simp; omega
        intro v' w5 hown hgrow hne
        obtain ⟨oa5, oc5, rfl⟩ := owns_shape hown
        rw [← allcells_snoc] at hown
        have K5 : Keep (fun j => (Value.slice oa on oc).ownBlock = some j) w4 w5 := ((Keep.refl _ w4).alloc _).grown hgrow (fun j hj => .inl hj)
        have B5 := Lib.hid (B4.out.trans (K5.below B4.out.size (fun b hb e => by have := (L4.out.row.lt b e).1; omega)))
        have L5 : Hid (Told w5 w.heap.size oa5 (on + 1) oc5 (fromOf at_ (cs.take (k + 1))) (xs ++ [y])) := by rw [FY.out]; exact L4.out.snoc HY.out K5 hown
        clear hown hgrow hne K5 L4 B4 HY
        go_wp2_with fail
        go_roundw
        case rel => exact ⟨k + 1, oa5, on + 1, oc5, _, by omega, by omega, by go_num, rfl, L5.out, B5.out⟩
        case measure => simp [intOf]; omega
      · have FN := Lib.hid (from_no C.out (by rw [← XL.out]; exact hge2))
        go_wp2_with fail
        go_roundw
        case rel => exact ⟨k + 1, oa, on, oc, xs, by omega, by omega, by go_num, rfl, by rw [FN.out]; exact L2.out, B2.out⟩
        case measure => simp [intOf]; omega
    · have e : cs.take k = cs := List.take_of_length_le (by rw [H.out.len]; exact hge)
      rw [e] at L
      clear hL hB
      go_wp2_with fail
      go_ret
      exact ⟨oa, on, oc, xs, rfl, L.out, B.out⟩

end Go.Proofs.Ythgkhhgabpebmaa
