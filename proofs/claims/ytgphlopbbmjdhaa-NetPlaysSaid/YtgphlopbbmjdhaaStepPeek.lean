/- 'step' of NetPlays: a look. -/
import Derived.Test.YtgphlopbbmjdhaaStepCut
namespace Go.Proofs.Ytgphlopbbmjdhaa
open Go.RowKit Go.Conc
set_option linter.unusedVariables false
set_option linter.unusedSimpArgs false

set_option maxHeartbeats 400000 in
theorem peek_none (L : Lay) (q : Nat → List Qm) (f t : Int) (w : World) (h : NetAt w L q) (hr : rowIx L.n f t = none) :
    Calls Try.prog 17 #[.pointer (some ⟨L.b, 0, none⟩), .int .i64 f, .int .i64 t] w fun e w' => e = .returned (.slice none 0 0) ∧ w = w' := by
  have HR := Lib.hid hr
  have HN := Lib.hid h
  clear hr h
  go_enter Try.func17, Try.ntmps17
  go_wp2_with fail
  refine (len_none L q f t _ HN.out HR.out).mono ?_
  rintro e w' ⟨rfl, rfl⟩
  go_wp2_with fail
  go_loopw [7, 14] (fun l x wr => l = .slice none 0 0 ∧ x = .int .i64 0 ∧ wr = w) (fun _ _ _ => 0)
  case atStart => exact ⟨rfl, rfl, rfl⟩
  case round =>
    obtain ⟨rfl, rfl, rfl⟩ := hrel
    go_wp2_with fail
    go_ret
    exact ⟨rfl, rfl⟩

/-- What a look tells, and what it leaves. -/
def Seen (w0 w : World) (L : Lay) (ps : List Pc) (f t : Int) (e : Ending) (w' : World) : Prop :=
  ∃ a cap xs q2, e = .returned (.slice a (selP f t ps).length cap) ∧ w'.ownsRow w.heap.size 33 9 (.slice a (selP f t ps).length cap) (selP f t ps).length (allcells xs) ∧
    Each (Holds w' w.heap.size) xs ((selP f t ps).map Prod.snd) ∧ State w' w0.heap.size L q2 ps ∧ (∀ x ∈ xs, ∀ i y, i < 2 * L.n → y ∈ q2 i → Away x y) ∧ Keep (fun b => ∃ i, i < 2 * L.n ∧ b = L.c i) w w'

theorem peek_seen (w0 w W : World) (L : Lay) (q : Nat → List Qm) (ps : List Pc) (f t : Int) (h : State W w0.heap.size L q ps) (hb : w0.heap.size ≤ W.heap.size) :
    Calls Try.prog 17 #[.pointer (some ⟨L.b, 0, none⟩), .int .i64 f, .int .i64 t] W (Seen w0 W L ps f t) := by
  rcases hr : rowIx L.n f t with _ | i
  · have e : selP f t ps = [] := selP_none fun p hp hh => by
      obtain ⟨i, hi⟩ := h.valid p hp
      rw [hh.1, hh.2, hr] at hi
      simp at hi
    refine (peek_none L q f t W h.net hr).mono ?_
    rintro e' w' ⟨rfl, rfl⟩
    refine ⟨none, 0, [], q, by rw [e]; rfl, by rw [e]; exact World.ownsRow_nil _ _ _ _, by rw [e]; exact .nil _, h, fun x hx => by simp at hx, Keep.refl _ _⟩
  · have hi := rowIx_lt hr
    have hrow := h.rows f t i hr
    have hlen := hrow.len
    rw [List.length_map] at hlen
    refine (peek_some L q f t i _ _ W h.net hr hrow (fun c hc => ?_)).mono ?_
    · obtain ⟨p, hp, rfl⟩ := List.mem_map.1 hc
      exact (h.held p (mem_selP hp)).2
    · rintro e' w' ⟨a, cap, xs, ys, rfl, hl⟩
      rw [List.length_map] at hl ⊢
      have hnet := hl.net
      rw [List.drop_of_length_le (by omega), List.nil_append] at hnet
      have htold := hl.told
      have hback := hl.back
      rw [List.take_of_length_le (by simp)] at htold hback
      refine ⟨a, cap, xs, put q i ys, rfl, hl.row, htold, h.look hr hnet hback hl.alone (Nat.le_refl _) hb (Holds.past h.net hl.keep (fun b _ e => .inl ⟨i, hi, e⟩)), fun x hx j y hj hy => ?_, hl.keep.mono (fun b e => ⟨i, hi, e⟩)⟩
      by_cases e : j = i
      · subst e
        rw [put_self] at hy
        exact hl.apart x hx y hy
      · rw [put_other _ _ e] at hy
        intro b hb1 hb2
        have := has_lt htold hx hb1
        obtain ⟨d, hd⟩ := h.qheld hj hy
        have := hd.lt hb2
        omega

theorem State.seen {w : World} {base : Nat} {L : Lay} {q : Nat → List Qm} {ps : List Pc} (h : State w base L q ps) (f t : Int) : Each (Holds w base) (((selP f t ps).map Prod.fst).map It.m) ((selP f t ps).map Prod.snd) :=
  ⟨by simp, fun j x c hx hc => by
    rw [List.getElem?_map, List.getElem?_map] at hx
    rw [List.getElem?_map] at hc
    obtain ⟨y, hy, rfl⟩ := Option.map_eq_some_iff.1 hx
    obtain ⟨p, hp, rfl⟩ := Option.map_eq_some_iff.1 hy
    rw [hp] at hc
    simp only [Option.map_some, Option.some.injEq] at hc
    subst hc
    exact (h.held p (mem_selP (List.mem_of_getElem? hp))).1⟩

theorem refPeek_sel (n : Int) (a : Option Addr) (len cap base : Nat) (ps : List Pc) (f t : Int) (w : World) (h : RefAt w base a len cap (ps.map Prod.fst)) (hlen : len ≤ 1000000) :
    Calls Try.prog 31 #[.agg #[.int .i64 n, .slice a len cap], .int .i64 f, .int .i64 t] w fun e w' =>
      ∃ a' cap', e = .returned (.slice a' (selP f t ps).length cap') ∧ w'.ownsRow w.heap.size 33 9 (.slice a' (selP f t ps).length cap') (selP f t ps).length (allcells (((selP f t ps).map Prod.fst).map It.m)) ∧ Keep (fun _ => False) w w' := by
  have e : (sel f t (ps.map Prod.fst)).length = (selP f t ps).length := by rw [← selP_fst, List.length_map]
  refine (refPeek_any n a len cap base _ f t w h hlen).mono fun e' w' ⟨a', cap', h1, h2, h3⟩ => ⟨a', cap', by rw [h1, e], ?_, h3⟩
  rw [e, ← selP_fst] at h2
  exact h2

def SpotIn (xs : List Qm) (b : Nat) : Prop := ∃ x ∈ xs, Spot x.wa x.wl b ∨ Spot x.pa x.pl b

theorem SpotIn.has {w : World} {base : Nat} {xs : List Qm} {cs : List Cont} (h : Each (Holds w base) xs cs) {b : Nat} (hb : SpotIn xs b) : ∃ x ∈ xs, x.has b := by
  obtain ⟨x, hx, hs⟩ := hb
  obtain ⟨c, hc⟩ := h.mem hx
  exact ⟨x, hx, hc.spot hs⟩

/-- Messages that nobody else has, written over. -/
theorem State.spoilt {w w' : World} {base B : Nat} {L : Lay} {q : Nat → List Qm} {ps : List Pc} {xs : List Qm} {cs : List Cont} (h : State w base L q ps) (hx : Each (Holds w B) xs cs) (hB : ∀ b, L.blk b → b < B) (hp : ∀ p ∈ ps, ∀ b, p.1.m.has b → b < B) (ha : ∀ x ∈ xs, ∀ i y, i < 2 * L.n → y ∈ q i → Away x y) (k : Keep (SpotIn xs) w w') : State w' base L q ps := by
  have lt : ∀ b, SpotIn xs b → B ≤ b := fun b hb => by
    obtain ⟨x, hm, hh⟩ := hb.has hx
    exact (has_lt hx hm hh).1
  refine ⟨h.net.keep k (fun b hb e => by have := hB b hb; have := lt b e; omega), fun p hp' => ⟨(h.held p hp').1.keep k (fun b hb e => by have := hp p hp' b hb; have := lt b e; omega), (h.held p hp').2⟩, h.valid, fun f t i hr => (h.rows f t i hr).mono (fun y d hy hd => hd.keep k (fun b hb e => ?_)), h.aq, h.ar, h.sum⟩
  obtain ⟨x, hm, hh⟩ := e.has hx
  exact ha x hm i y (rowIx_lt hr) hy b hh hb

set_option maxHeartbeats 2000000 in
set_option maxRecDepth 100000 in
theorem step_peek (w0 : World) (L : Lay) (q : Nat → List Qm) (ps : List Pc) (base' : Nat) (a : Option Addr) (len cap : Nat) (kd fr de nn : Int) (ms : Qm) (w : World) (h : State w w0.heap.size L q ps) (hR : RefAt w base' a len cap (ps.map Prod.fst)) (hlow : Below w0.heap.size w0 w) (hab : ∀ b, L.blk b → w0.heap.size ≤ b) (hlen : len ≤ 1000000)
    (d0 : (kd == 0) = false) (d1 : (kd == 1) = false) (d2 : (kd == 2) = false) (d3 : (kd == 3) = false) :
    Calls Try.prog 23 #[.pointer (some ⟨L.b, 0, none⟩), .agg #[.int .i64 L.n, .slice a len cap], .agg #[.int .i64 kd, .int .i64 fr, .int .i64 de, .int .i64 nn, .int .i64 ms.kind, .int .i64 ms.txn, .int .i64 ms.page, .int .i64 ms.dst, .bool ms.fast, .int .u64 ms.lsn, .slice ms.wa ms.wl ms.wc, .slice ms.pa ms.pl ms.pc, .string ms.body]] w (StepPost w0 w L len) := by
  have O1 : Hid (Own3 (((w.alloc (.cells #[.int .i64 L.n, .slice a len cap] 54)).alloc (.cells #[.int .i64 kd, .int .i64 fr, .int .i64 de, .int .i64 nn, .int .i64 ms.kind, .int .i64 ms.txn, .int .i64 ms.page, .int .i64 ms.dst, .bool ms.fast, .int .u64 ms.lsn, .slice ms.wa ms.wl ms.wc, .slice ms.pa ms.pl ms.pc, .string ms.body] 41)).alloc (.cells #[.int .i64 0, .slice none 0 0] 54)) w.heap.size [.int .i64 L.n, .slice a len cap] (OpV.cells ⟨kd, fr, de, nn, ms⟩) [.int .i64 0, .slice none 0 0]) := Own3.new w [.int .i64 L.n, .slice a len cap] (OpV.cells ⟨kd, fr, de, nn, ms⟩) [.int .i64 0, .slice none 0 0]
  have K1 : Hid (Keep (fun _ => False) w (((w.alloc (.cells #[.int .i64 L.n, .slice a len cap] 54)).alloc (.cells #[.int .i64 kd, .int .i64 fr, .int .i64 de, .int .i64 nn, .int .i64 ms.kind, .int .i64 ms.txn, .int .i64 ms.page, .int .i64 ms.dst, .bool ms.fast, .int .u64 ms.lsn, .slice ms.wa ms.wl ms.wc, .slice ms.pa ms.pl ms.pc, .string ms.body] 41)).alloc (.cells #[.int .i64 0, .slice none 0 0] 54))) := (((Keep.refl _ _).alloc _).alloc _).alloc _
  have HS := Lib.hid h
  have HRef := Lib.hid hR
  have LOW := Lib.hid hlow
  have AB := Lib.hid hab
  clear h hR hlow hab
  go_enter Try.func23, Try.ntmps23
  go_upto_region 27 with fail
  generalize (((w.alloc (.cells #[.int .i64 L.n, .slice a len cap] 54)).alloc (.cells #[.int .i64 kd, .int .i64 fr, .int .i64 de, .int .i64 nn, .int .i64 ms.kind, .int .i64 ms.txn, .int .i64 ms.page, .int .i64 ms.dst, .bool ms.fast, .int .u64 ms.lsn, .slice ms.wa ms.wl ms.wc, .slice ms.pa ms.pl ms.pc, .string ms.body] 41)).alloc (.cells #[.int .i64 0, .slice none 0 0] 54)) = w1 at O1 K1 ⊢
  have o1 := O1.out.o.at (i := 1) rfl
  have o2 := O1.out.o.at (i := 2) rfl
  go_wp2_with fail
  refine (peek_seen w0 w w1 L q ps fr de (HS.out.keep K1.out (fun _ _ h => h)) (Nat.le_trans LOW.out.size K1.out.size)).mono ?_
  rintro e w2 ⟨a2, cap2, xs, q2, rfl, hrow, hxs, hst, haw, hk2⟩
  have ci : Hid (∀ b, (∃ i, i < 2 * L.n ∧ b = L.c i) → b < w.heap.size) := Lib.hid (fun b ⟨i, hi, e⟩ => by subst e; exact HS.out.net.blk_lt (.inr (.inr (.inr ⟨i, hi, rfl⟩))))
  have O2 := Lib.hid (O1.out.keep hk2 (fun b h1 h2 e => by have := ci.out b e; omega))
  have K2 := Lib.hid ((K1.out.mono (T := fun b => ∃ i, i < 2 * L.n ∧ b = L.c i) (fun _ h => h.elim)).trans hk2 (fun _ h => .inl h))
  have ROW := Lib.hid hrow
  have XS := Lib.hid hxs
  have ST := Lib.hid hst
  have AW := Lib.hid haw
  have SZ := Lib.hid K1.out.size
  have R2 : Hid (RefAt w2 base' a len cap (ps.map Prod.fst)) := (HRef.out.keep K1.out (fun _ _ h => h)).keep hk2 (fun j hj e => by
    obtain ⟨cur, hc⟩ := owns_cells (HRef.out.keep K1.out (fun _ _ h => h)).row hj
    obtain ⟨i, hi, rfl⟩ := e
    obtain ⟨s', r', hc'⟩ := (HS.out.net.keep K1.out (fun _ _ h => h)).ch i hi
    rw [hc] at hc'
    simp at hc')
  have HLN : Hid ((selP fr de ps).length ≤ len) := by
    have h1 : (selP fr de ps).length ≤ ps.length := List.length_filter_le _ _
    have h2 := HRef.out.len
    rw [List.length_map] at h2
    exact Lib.hid (by omega)
  clear hrow hxs hst haw hk2 o1 o2 O1 K1
  have t0 := O2.out.t.at (i := 0) rfl
  have t1 := O2.out.t.at (i := 1) rfl
  have o1 := O2.out.o.at (i := 1) rfl
  have o2 := O2.out.o.at (i := 2) rfl
  go_wp2_with fail
  refine (refPeek_sel L.n a len cap base' ps fr de w2 R2.out hlen).mono ?_
  rintro e w3 ⟨a3, cap3, rfl, hrow3, hk3⟩
  have O3 := Lib.hid (O2.out.keep hk3 (fun _ _ _ h => h))
  have K3 := Lib.hid (K2.out.none_trans hk3)
  have XS3 := Lib.hid (XS.out.mono (fun x c _ hx => hx.keep hk3 (fun _ _ h => h)))
  have ROW3 := Lib.hid (owns_keep ROW.out hk3 (fun _ _ h => h))
  have ST3 := Lib.hid (ST.out.keep hk3 (fun _ _ h => h))
  have R3 := Lib.hid (R2.out.keep hk3 (fun _ _ h => h))
  have MB := Lib.hid ((ST3.out.seen fr de).msgs hrow3 (by simp))
  have MA := Lib.hid (XS3.out.msgs ROW3.out (by simp))
  have FW : Hid (∀ c ∈ (selP fr de ps).map Prod.snd, c.few) := Lib.hid (fun c hc => by
    obtain ⟨p, hp, rfl⟩ := List.mem_map.1 hc
    exact (ST3.out.held p (mem_selP hp)).2)
  clear hrow3 hk3 t0 t1 o1 o2 O2 K2 ROW XS ST R2
  go_wp2_with fail
  refine (sameAll_yes a2 a3 (selP fr de ps).length cap2 cap3 _ w3 MA.out MB.out FW.out (by have := HLN.out; omega)).mono ?_
  rintro e w4 ⟨rfl, hk4⟩
  have O4 := Lib.hid (O3.out.keep hk4 (fun _ _ _ h => h))
  have K4 := Lib.hid (K3.out.none_trans hk4)
  have XS4 := Lib.hid (XS3.out.mono (fun x c _ hx => hx.keep hk4 (fun _ _ h => h)))
  have ROW4 := Lib.hid (owns_keep ROW3.out hk4 (fun _ _ h => h))
  have ST4 := Lib.hid (ST3.out.keep hk4 (fun _ _ h => h))
  have R4 := Lib.hid (R3.out.keep hk4 (fun _ _ h => h))
  clear hk4 O3 K3 XS3 ROW3 ST3 R3 MB MA
  go_wp2_with fail
  have hbn : (selP fr de ps).length ≤ 1000000 := by have := HLN.out; omega
  go_loopw [23] (fun i wr => ∃ (k : Nat), k ≤ (selP fr de ps).length ∧ i = .int .i64 k ∧ Keep (SpotIn xs) w4 wr ∧ Shape w4 wr) (fun i _ => (selP fr de ps).length - (intOf i).toNat)
  case atStart => exact ⟨0, Nat.zero_le _, rfl, Keep.refl _ _, Shape.refl _⟩
  case round =>
    obtain ⟨k, hk, rfl, hK, hSh⟩ := hrel
    have notin : ∀ b T vs, Blk w4 b T vs → T ≠ 67 → T ≠ 3 → ¬ SpotIn xs b := fun b T vs hb h1 h2 e => by
      obtain ⟨x, hx, hh⟩ := e.has XS4.out
      obtain ⟨c, hc⟩ := XS4.out.mem hx
      exact hc.odd hh ⟨_, _, hb, h1, h2⟩
    have rowr : wr.ownsRow w1.heap.size 33 9 (.slice a2 (selP fr de ps).length cap2) (selP fr de ps).length (allcells xs) := owns_keep ROW4.out hK (fun j hj e => by
      obtain ⟨cur, hc⟩ := owns_cells ROW4.out hj
      exact notin j 33 cur.toList (by simpa [Blk] using hc) (by decide) (by decide) e)
    rcases (by omega : k < (selP fr de ps).length ∨ (selP fr de ps).length ≤ k) with hlt | hge
    · obtain ⟨x, hx⟩ : ∃ x, xs[k]? = some x := ⟨_, List.getElem?_eq_getElem (by have := XS4.out.len; simp at this; omega)⟩
      obtain ⟨g, rfl, hm⟩ := owns_msg rowr hx
      obtain ⟨c, hc, hxc⟩ := XS4.out.other hx
      have M := Lib.hid (hxc.mine)
      have WL := Lib.hid (hxc.wl)
      have FC := Lib.hid (FW.out c (List.mem_of_getElem? hc))
      have HXM := Lib.hid (List.mem_of_getElem? hx)
      have K := Lib.hid hK
      have SH := Lib.hid hSh
      simp only [Nat.zero_add] at hm
      obtain ⟨e0, e1, e2, e3, e4, e5, e6, e7, e8⟩ := hm
      clear notin rowr hx hc hxc hK hSh
      go_wp2_with fail
      refine (spoil_shape x _ (M.out.1.shape SH.out) (M.out.2.shape SH.out) (by have := WL.out.1; have := FC.out.1; omega) (by have := WL.out.2; have := FC.out.2; omega)).mono ?_
      rintro e w5 ⟨rfl, hk5, hs5⟩
      have K5 := Lib.hid (K.out.trans hk5 (fun b e => .inl ⟨x, HXM.out, e⟩))
      have S5 := Lib.hid (SH.out.trans hs5)
      clear hk5 hs5 e0 e1 e2 e3 e4 e5 e6 e7 e8
      go_wp2_with fail
      go_roundw
      case rel => exact ⟨k + 1, by omega, by go_num, K5.out, S5.out⟩
      case measure => simp [intOf]; omega
    · have Or : Own3 wr w.heap.size [.int .i64 L.n, .slice a len cap] (OpV.cells ⟨kd, fr, de, nn, ms⟩) [.int .i64 0, .slice none 0 0] := ⟨O4.out.t.keep hK (notin _ _ _ O4.out.t (by decide) (by decide)), O4.out.o.keep hK (notin _ _ _ O4.out.o (by decide) (by decide)), O4.out.r.keep hK (notin _ _ _ O4.out.r (by decide) (by decide))⟩
      have t0 := Or.t.at (i := 0) rfl
      have t1 := Or.t.at (i := 1) rfl
      have r0 := Or.r.at (i := 0) rfl
      have r1 := Or.r.at (i := 1) rfl
      have frz := Or.r.free
      have BR := set_two Or.r (.int .i64 L.n) (.slice a len cap)
      have q0 := BR.1.at (i := 0) rfl
      have q1 := BR.1.at (i := 1) rfl
      have ne1 : w.heap.size + 2 ≠ w.heap.size := by omega
      have sl : ∀ b, SpotIn xs b → w1.heap.size ≤ b := fun b e => by
        obtain ⟨x, hx, hh⟩ := e.has XS4.out
        exact (has_lt XS4.out hx hh).1
      have Str : State wr w0.heap.size L q2 ps := ST4.out.spoilt XS4.out (fun b hb => by have := HS.out.net.blk_lt hb; have := SZ.out; omega) (fun p hp b hb => by have := ((HS.out.held p hp).1.lt hb).2; have := SZ.out; omega) AW.out hK
      have hs0 := LOW.out.size
      have Se : Hid (State ((wr.setCell ⟨w.heap.size + 2, 0, none⟩ (.int .i64 L.n)).setCell ⟨w.heap.size + 2, 1, none⟩ (.slice a len cap)) w0.heap.size L q2 ps) := Str.odd BR.2 (fun b hb e => by subst e; exact ⟨⟨_, _, Or.r, by decide, by decide⟩, fun hh => by have := HS.out.net.blk_lt hh; omega⟩)
      have Rr : RefAt wr base' a len cap (ps.map Prod.fst) := R4.out.keep hK (fun j hj e => by
        obtain ⟨cur, hc⟩ := owns_cells R4.out.row hj
        exact notin j 77 cur.toList (by simpa [Blk] using hc) (by decide) (by decide) e)
      have Re : Hid (RefAt ((wr.setCell ⟨w.heap.size + 2, 0, none⟩ (.int .i64 L.n)).setCell ⟨w.heap.size + 2, 1, none⟩ (.slice a len cap)) base' a len cap (ps.map Prod.fst)) := Rr.keep BR.2 (fun j hj e => owns_ne Rr.row Or.r (by decide) hj e)
      have KE : Hid (Below w0.heap.size w0 ((wr.setCell ⟨w.heap.size + 2, 0, none⟩ (.int .i64 L.n)).setCell ⟨w.heap.size + 2, 1, none⟩ (.slice a len cap)) ∧ (∀ b vs, Blk w b 54 vs → Blk ((wr.setCell ⟨w.heap.size + 2, 0, none⟩ (.int .i64 L.n)).setCell ⟨w.heap.size + 2, 1, none⟩ (.slice a len cap)) b 54 vs)) := by
        have k1 : Keep (fun b => ∃ i, i < 2 * L.n ∧ b = L.c i) w wr := K4.out.trans hK (fun b e => .inr (by have := sl b e; have := SZ.out; omega))
        have k2 := k1.trans BR.2 (fun b e => .inr (by omega))
        refine ⟨?_, same54 HS.out.net k2 (fun b hb e => .inl e)⟩
        exact LOW.out.trans (k2.below hs0 (fun b hb ⟨i, hi, e⟩ => by have := AB.out _ (.inr (.inr (.inr ⟨i, hi, e⟩))); omega))
      clear notin rowr hK hSh Or BR sl Str Rr hs0
      go_wp2_with fail
      refine bodyPost_ret (v := .tuple #[.agg #[.int .i64 L.n, .slice a len cap], .bool true]) (by simp [results, Try.results23, go_sem, q0, q1]) rfl ⟨q2, ps, a, len, cap, rfl, Se.out, ⟨_, Re.out⟩, by omega, KE.out.1, KE.out.2⟩

end Go.Proofs.Ytgphlopbbmjdhaa
