/- 'Peek' of a net: what it tells are the messages of the row, in lists of their own; the row holds the same behind it. -/
import Derived.Test.YtgphlopbbmjdhaaEach
import Derived.Test.YtgphlopbbmjdhaaTake
import Derived.Test.YtgphlopbbmjdhaaLen
import Derived.Test.YtgphlopbbmjdhaaLives
import Derived.Test.YtgphlopbbmjdhaaLawCopy
import Derived.Deep.DeepCutAuto
namespace Go.Proofs.Ytgphlopbbmjdhaa
open Go.RowKit Go.Conc
set_option linter.unusedVariables false
set_option linter.unusedSimpArgs false

def Away (x y : Qm) : Prop := ∀ b, x.has b → ¬ y.has b

theorem Away.symm {x y : Qm} (h : Away x y) : Away y x := fun b hy hx => h b hx hy

/-- A look under way: so many messages told, and sent again. -/
structure Looked (w0 wr : World) (L : Lay) (q : Nat → List Qm) (i : Nat) (C : List Cont) (k : Nat) (a : Option Addr) (cap : Nat) (xs ys : List Qm) : Prop where
  net : NetAt wr L (put q i ((q i).drop k ++ ys))
  keep : Keep (fun k => k = L.c i) w0 wr
  row : wr.ownsRow w0.heap.size 33 9 (.slice a k cap) k (allcells xs)
  told : Each (Holds wr w0.heap.size) xs (C.take k)
  back : Each (Holds wr w0.heap.size) ys (C.take k)
  apart : ∀ x ∈ xs, ∀ y ∈ ys, Away x y
  alone : ys.Pairwise Away

theorem Looked.start {w : World} {L : Lay} {q : Nat → List Qm} {i : Nat} (h : NetAt w L q) (C : List Cont) : Looked w w L q i C 0 none 0 [] [] where
  net := by
    have e : put q i ((q i).drop 0 ++ []) = q := by funext k; by_cases h : k = i <;> simp [put, h]
    rw [e]; exact h
  keep := Keep.refl _ _
  row := World.ownsRow_nil _ _ _ _
  told := .nil _
  back := .nil _
  apart := fun x hx => by simp at hx
  alone := .nil

theorem has_lt {w : World} {base : Nat} {xs : List Qm} {cs : List Cont} (h : Each (Holds w base) xs cs) {x : Qm} (hx : x ∈ xs) {b : Nat} (hb : x.has b) : base ≤ b ∧ b < w.heap.size := by
  obtain ⟨c, hc⟩ := h.mem hx
  exact hc.lt hb

/-- One more: from a look under way, the world behind the copy's append and the sending back. -/
theorem Looked.step {w0 wr w3 w4 w5 : World} {L : Lay} {q : Nat → List Qm} {i : Nat} {C : List Cont} {k : Nat} {a a' : Option Addr} {cap cap' B : Nat} {xs ys : List Qm} {x y : Qm} {c : Cont}
    (h : Looked w0 wr L q i C k a cap xs ys) (hN0 : NetAt w0 L q) (hi : i < 2 * L.n) (hc : C[k]? = some c) (hB : wr.heap.size ≤ B)
    (hx : Holds w3 B x c) (K3 : Keep (fun k => k = L.c i) wr w3)
    (hrow : w4.ownsRow w0.heap.size 33 9 (.slice a' (k + 1) cap') (k + 1) (allcells (xs ++ [x]))) (K4 : Keep (fun j => (Value.slice a k cap).ownBlock = some j) w3 w4)
    (hN : NetAt w5 L (put q i ((q i).drop (k + 1) ++ (ys ++ [y])))) (K5 : Keep (fun k => k = L.c i) w4 w5) (hy : Holds w5 w4.heap.size y c) (hxs : xs.length = k) :
    Looked w0 w5 L q i C (k + 1) a' cap' (xs ++ [x]) (ys ++ [y]) := by
  have hlc : L.c i < w0.heap.size := hN0.blk_lt (.inr (.inr (.inr ⟨i, hi, rfl⟩)))
  have z0 := h.keep.size
  have z3 := K3.size
  have z4 := K4.size
  have z5 := K5.size
  have ha : ∀ j, (Value.slice a k cap).ownBlock = some j → w0.heap.size ≤ j ∧ j < wr.heap.size := h.row.lt
  -- the lists told and sent back before are as they were
  have old : ∀ (m : Qm) (d : Cont), Holds wr w0.heap.size m d → Holds w5 w0.heap.size m d := by
    intro m d hm
    have h1 := hm.keep K3 (fun b hb e => hm.not_blk h.net hb hi e)
    have h2 := h1.keep K4 (fun b hb e => by
      obtain ⟨cur, hc1⟩ := owns_cells h.row e
      rcases hb with hb | hb
      · obtain ⟨cur2, hc2⟩ := owns_cells hm.ws hb
        rw [hc1] at hc2; simp at hc2
      · obtain ⟨cur2, hc2⟩ := owns_cells hm.ps hb
        rw [hc1] at hc2; simp at hc2)
    exact h2.keep K5 (fun b hb e => hm.not_blk h.net hb hi e)
  have hx5 : Holds w5 w0.heap.size x c := by
    have h2 := hx.keep K4 (fun b hb e => by have := hx.lt hb; have := ha b e; omega)
    exact (h2.keep K5 (fun b hb e => by have := hx.lt hb; omega)).base (by omega)
  have htake : C.take (k + 1) = C.take k ++ [c] := by
    have hk : k < C.length := (List.getElem?_eq_some_iff.1 hc).1
    rw [List.take_add_one, hc]; rfl
  have hkx : ∀ m ∈ xs, ∀ b, m.has b → b < wr.heap.size := fun m hm b hb => (has_lt h.told hm hb).2
  have hky : ∀ m ∈ ys, ∀ b, m.has b → b < wr.heap.size := fun m hm b hb => (has_lt h.back hm hb).2
  refine ⟨hN, ((h.keep.trans K3 (fun _ e => .inl e)).trans K4 (fun j e => .inr (ha j e).1)).trans K5 (fun _ e => .inl e), ?_, ?_, ?_, ?_, ?_⟩
  · exact owns_keep hrow K5 (fun j hj e => by have := hrow.lt j hj; omega)
  · rw [htake]; exact (h.told.mono (fun m d _ hm => old m d hm)).snoc hx5
  · rw [htake]; exact (h.back.mono (fun m d _ hm => old m d hm)).snoc (hy.base (by omega))
  · intro m hm n hn b hb hb'
    rcases List.mem_append.1 hm with hm | hm
    · rcases List.mem_append.1 hn with hn | hn
      · exact h.apart m hm n hn b hb hb'
      · rw [List.mem_singleton] at hn; subst hn
        have := hkx m hm b hb
        have := hy.lt hb'
        omega
    · rw [List.mem_singleton] at hm; subst hm
      rcases List.mem_append.1 hn with hn | hn
      · have := hky n hn b hb'
        have := hx.lt hb
        omega
      · rw [List.mem_singleton] at hn; subst hn
        have := hy.lt hb'
        have := hx.lt hb
        omega
  · rw [List.pairwise_append]
    refine ⟨h.alone, List.pairwise_singleton _ _, fun m hm n hn b hb hb' => ?_⟩
    rw [List.mem_singleton] at hn; subst hn
    have := hky m hm b hb
    have := hy.lt hb'
    omega

theorem copied_holds (m : Qm) (c : Cont) (w : World) (hm : Reads w m c) (hf : c.few) :
    Calls Try.prog 26 #[.agg #[.int .i64 m.kind, .int .i64 m.txn, .int .i64 m.page, .int .i64 m.dst, .bool m.fast, .int .u64 m.lsn, .slice m.wa m.wl m.wc, .slice m.pa m.pl m.pc, .string m.body]] w fun e w' =>
      ∃ y : Qm, e = .returned (.agg #[.int .i64 y.kind, .int .i64 y.txn, .int .i64 y.page, .int .i64 y.dst, .bool y.fast, .int .u64 y.lsn, .slice y.wa y.wl y.wc, .slice y.pa y.pl y.pc, .string y.body]) ∧ Keep (fun _ => False) w w' ∧ Holds w' w.heap.size y c := by
  have hl := hm.wl
  refine (copied_any m _ _ _ _ _ _ _ _ w hm.ws (by have := hf.1; omega) hm.ps (by have := hf.2; omega)).mono fun e w' ⟨g1, c1, g2, c2, he, hK, h1, h2, _⟩ => ⟨{ m with wa := some ⟨g1, 0, none⟩, wc := c1, pa := some ⟨g2, 0, none⟩, pc := c2 }, he, hK, ⟨?_, h1, h2⟩⟩
  exact ⟨hm.plain.kind, hm.plain.txn, hm.plain.page, hm.plain.dst, hm.plain.fast, hm.plain.lsn, hm.plain.body⟩

set_option maxHeartbeats 2000000 in
set_option maxRecDepth 100000 in
theorem peek_some (L : Lay) (q : Nat → List Qm) (f t : Int) (i : Nat) (C : List Cont) (base : Nat) (w : World) (h : NetAt w L q) (hr : rowIx L.n f t = some i) (hC : Each (Holds w base) (q i) C) (hf : ∀ c ∈ C, c.few) :
    Calls Try.prog 17 #[.pointer (some ⟨L.b, 0, none⟩), .int .i64 f, .int .i64 t] w fun e w' =>
      ∃ a cap xs ys, e = .returned (.slice a C.length cap) ∧ Looked w w' L q i C C.length a cap xs ys := by
  obtain ⟨i0, hi0, hz0, hz1, hz2⟩ := info_parts info33'
  have hi := rowIx_lt hr
  have hlen := hC.len
  have h256 := h.len i hi
  rw [hlen] at h256
  have HR := Lib.hid hr
  have HN := Lib.hid h
  have HC := Lib.hid hC
  have HF := Lib.hid hf
  have HI := Lib.hid hi
  have HL := Lib.hid hlen
  clear hr h hC hf hi hlen
  go_enter Try.func17, Try.ntmps17
  go_wp2_with fail
  refine (len_some L q f t i _ HN.out HR.out).mono ?_
  rintro e w' ⟨rfl, rfl⟩
  rw [HL.out]
  go_wp2_with fail
  go_loopw [7, 14] (fun l x wr => ∃ (k : Nat) (a : Option Addr) (cap : Nat) (xs ys : List Qm), k ≤ C.length ∧ l = .slice a k cap ∧ x = .int .i64 k ∧ Looked w wr L q i C k a cap xs ys) (fun _ x _ => C.length - (intOf x).toNat)
  case atStart => exact ⟨0, none, 0, [], [], Nat.zero_le _, rfl, rfl, .start HN.out C⟩
  case round =>
    obtain ⟨k, a, cap, xs, ys, hk, rfl, rfl, hlk⟩ := hrel
    rcases (by omega : k < C.length ∨ C.length ≤ k) with hlt | hge
    · obtain ⟨c, hc⟩ : ∃ c, C[k]? = some c := ⟨_, List.getElem?_eq_getElem hlt⟩
      obtain ⟨m, hm⟩ : ∃ m, (q i)[k]? = some m := ⟨_, List.getElem?_eq_getElem (by rw [HL.out]; exact hlt)⟩
      have hq : (q i).drop k ++ ys = m :: ((q i).drop (k + 1) ++ ys) := by
        obtain ⟨hk', rfl⟩ := List.getElem?_eq_some_iff.1 hm
        rw [List.drop_eq_getElem_cons hk']; rfl
      have HQ : Hid (put q i ((q i).drop k ++ ys) i = m :: ((q i).drop (k + 1) ++ ys)) := by rw [put_self]; exact hq
      have HM : Hid (Holds wr base m c) := (HC.out.get k m c hm hc).keep_net HN.out HI.out hlk.keep
      have HCf := Lib.hid (HF.out c (List.mem_of_getElem? hc))
      have HK := Lib.hid hlk
      have HCk := Lib.hid hc
      obtain ⟨mk, mt, mp, md, mf, ml, mwa, mwl, mwc, mpa, mpl, mpc, mb⟩ := m
      clear hlk hq hc hm
      go_wp2_with fail
      refine (take_some L _ f t i _ _ _ HK.out.net HR.out HQ.out).mono ?_
      rintro e w2 ⟨rfl, hN2, hk2⟩
      rw [put_put] at hN2
      have N2 := Lib.hid hN2
      have K2 := Lib.hid hk2
      clear hN2 hk2
      go_wp2_with fail
      have KA : Hid (Keep (fun k => k = L.c i) wr (w2.alloc (.cells #[.int .i64 mk, .int .i64 mt, .int .i64 mp, .int .i64 md, .bool mf, .int .u64 ml, .slice mwa mwl mwc, .slice mpa mpl mpc, .string mb] 33))) := K2.out.alloc _
      have HM2 : Hid (Holds (w2.alloc (.cells #[.int .i64 mk, .int .i64 mt, .int .i64 mp, .int .i64 md, .bool mf, .int .u64 ml, .slice mwa mwl mwc, .slice mpa mpl mpc, .string mb] 33)) base ⟨mk, mt, mp, md, mf, ml, mwa, mwl, mwc, mpa, mpl, mpc, mb⟩ c) := HM.out.keep_net HK.out.net HI.out KA.out
      have N3 : Hid (NetAt (w2.alloc (.cells #[.int .i64 mk, .int .i64 mt, .int .i64 mp, .int .i64 md, .bool mf, .int .u64 ml, .slice mwa mwl mwc, .slice mpa mpl mpc, .string mb] 33)) L (put q i ((q i).drop (k + 1) ++ ys))) := N2.out.keep ((Keep.refl (fun _ => False) _).alloc _) (fun _ _ h => h)
      have BM : Hid (Blk (w2.alloc (.cells #[.int .i64 mk, .int .i64 mt, .int .i64 mp, .int .i64 md, .bool mf, .int .u64 ml, .slice mwa mwl mwc, .slice mpa mpl mpc, .string mb] 33)) w2.heap.size 33 [.int .i64 mk, .int .i64 mt, .int .i64 mp, .int .i64 md, .bool mf, .int .u64 ml, .slice mwa mwl mwc, .slice mpa mpl mpc, .string mb]) := heap_alloc_new _ _
      have SA : Hid (wr.heap.size ≤ (w2.alloc (.cells #[.int .i64 mk, .int .i64 mt, .int .i64 mp, .int .i64 md, .bool mf, .int .u64 ml, .slice mwa mwl mwc, .slice mpa mpl mpc, .string mb] 33)).heap.size ∧ wr.heap.size ≤ w2.heap.size) := ⟨KA.out.size, K2.out.size⟩
      refine (copied_holds ⟨mk, mt, mp, md, mf, ml, mwa, mwl, mwc, mpa, mpl, mpc, mb⟩ c _ HM2.out.reads HCf.out).mono ?_
      rintro e w3 ⟨⟨yk, yt, yp, yd, yf, yl, ywa, ywl, ywc, ypa, ypl, ypc, yb⟩, rfl, hk3, hy3⟩
      have KB : Hid (Keep (fun k => k = L.c i) wr w3) := KA.out.none_trans hk3
      have HY := Lib.hid hy3
      have N4 := Lib.hid (N3.out.keep hk3 (fun _ _ h => h))
      have BM3 := Lib.hid (BM.out.keep hk3 (fun h => h))
      have HM3 := Lib.hid (HM2.out.keep hk3 (fun _ _ h => h))
      have hro : wr.ownsRow w.heap.size 33 9 (.slice a k cap) k (allcells xs) := HK.out.row
      have hlc : L.c i < w.heap.size := HN.out.blk_lt (.inr (.inr (.inr ⟨i, HI.out, rfl⟩)))
      have RO : Hid (w3.ownsRow w.heap.size 33 9 (.slice a k cap) k (allcells xs)) := owns_keep hro KB.out (fun j hj e => by have := (hro.lt j hj).1; omega)
      have SZ : Hid (w.heap.size ≤ w3.heap.size) := Nat.le_trans HK.out.keep.size KB.out.size
      clear hk3 hy3 hro hlc
      go_wp2_with (at_builtin; refine wpList_append_src rfl _ _ 44 rfl w.heap.size 33 i0 (.agg #[.int .i64 0, .int .i64 0, .int .i64 0, .int .i64 0, .bool false, .int .u64 0, .slice none 0 0, .slice none 0 0, .string ByteArray.empty]) 9 112 Try.underlying44 hi0 hz0 hz1 hz2 rfl (by decide) (.slice a k cap) k (allcells xs) rfl ?_ (some ⟨w3.heap.size, 0, none⟩) 1 1 (Qm.cells ⟨yk, yt, yp, yd, yf, yl, ywa, ywl, ywc, ypa, ypl, ypc, yb⟩) rfl ?_ (by unfold maxLen; omega) (by omega) ?_ ?_)
      · exact RO.out.alloc _
      · exact src_new w3 33 _ (cells_one ⟨yk, yt, yp, yd, yf, yl, ywa, ywl, ywc, ypa, ypl, ypc, yb⟩)
      · have := SZ.out; simp; omega
      intro v' w4 hown hgrow hne
      obtain ⟨a', cap', rfl⟩ := owns_shape hown
      clear hne
      rw [← allcells_snoc] at hown
      have K4 : Hid (Keep (fun j => (Value.slice a k cap).ownBlock = some j) w3 w4) := ((Keep.refl _ w3).alloc _).grown hgrow (fun j hj => .inl hj)
      have HO := Lib.hid hown
      clear hown hgrow
      have BM4 : Blk w4 w2.heap.size 33 [.int .i64 mk, .int .i64 mt, .int .i64 mp, .int .i64 md, .bool mf, .int .u64 ml, .slice mwa mwl mwc, .slice mpa mpl mpc, .string mb] :=
        BM3.out.keep K4.out (fun e => by have := (HK.out.row.lt _ e).2; have := SA.out.2; omega)
      have N5 : Hid (NetAt w4 L (put q i ((q i).drop (k + 1) ++ ys))) := N4.out.keep K4.out (fun j hj e => by have := HN.out.blk_lt hj; have := (HK.out.row.lt _ e).1; omega)
      have HM4 : Hid (Holds w4 base ⟨mk, mt, mp, md, mf, ml, mwa, mwl, mwc, mpa, mpl, mpc, mb⟩ c) := HM3.out.keep K4.out (fun b hb e => by
        obtain ⟨cur, hc1⟩ := owns_cells RO.out e
        rcases hb with hb | hb
        · obtain ⟨cur2, hc2⟩ := owns_cells HM3.out.ws hb
          rw [hc1] at hc2; simp at hc2
        · obtain ⟨cur2, hc2⟩ := owns_cells HM3.out.ps hb
          rw [hc1] at hc2; simp at hc2)
      have c0 := BM4.at (i := 0) rfl
      have c1 := BM4.at (i := 1) rfl
      have c2 := BM4.at (i := 2) rfl
      have c3 := BM4.at (i := 3) rfl
      have c4 := BM4.at (i := 4) rfl
      have c5 := BM4.at (i := 5) rfl
      have c6 := BM4.at (i := 6) rfl
      have c7 := BM4.at (i := 7) rfl
      have c8 := BM4.at (i := 8) rfl
      clear BM4
      have HRM : Hid (((put q i ((q i).drop (k + 1) ++ ys)) i).length < 256) := by
        have h1 := HK.out.back.len
        have h2 := HL.out
        refine Lib.hid ?_
        rw [put_self, List.length_append, List.length_drop, h1, List.length_take]
        omega
      have HXS : Hid (xs.length = k) := by
        have h1 := HK.out.told.len
        exact Lib.hid (by rw [h1, List.length_take]; omega)
      go_wp2_with fail
      refine (send_holds L _ f t i ⟨mk, mt, mp, md, mf, ml, mwa, mwl, mwc, mpa, mpl, mpc, mb⟩ c _ N5.out HR.out HRM.out HM4.out.reads HCf.out).mono ?_
      rintro e w5 ⟨rfl, z, hN5, hK5, hz5⟩
      rw [put_put, put_self, List.append_assoc] at hN5
      have LK := Lib.hid (HK.out.step HN.out HI.out HCk.out SA.out.1 HY.out KB.out HO.out K4.out hN5 hK5 hz5 HXS.out)
      clear hN5 hK5 hz5 c0 c1 c2 c3 c4 c5 c6 c7 c8
      go_wp2_with fail
      go_roundw
      case rel => exact ⟨k + 1, a', cap', _, _, by omega, rfl, by go_num, LK.out⟩
      case measure => simp [intOf]; omega
    · go_wp2_with fail
      go_ret
      obtain rfl : k = C.length := by omega
      exact ⟨_, _, _, _, rfl, hlk⟩

end Go.Proofs.Ytgphlopbbmjdhaa
