/- 'step' of NetPlays: a message is taken. -/
import Derived.Test.YtgphlopbbmjdhaaBetween
namespace Go.Proofs.Ytgphlopbbmjdhaa
open Go.RowKit Go.Conc
set_option linter.unusedVariables false
set_option linter.unusedSimpArgs false

/-- What a step leaves. -/
def StepPost (w0 w : World) (L : Lay) (len : Nat) (e : Ending) (w' : World) : Prop :=
  ∃ q' ps' a' len' cap', e = .returned (.tuple #[.agg #[.int .i64 L.n, .slice a' len' cap'], .bool true]) ∧ State w' w0.heap.size L q' ps' ∧ (∃ b, RefAt w' b a' len' cap' (ps'.map Prod.fst)) ∧ len' ≤ len + 260 ∧ Below w0.heap.size w0 w' ∧ (∀ b vs, Blk w b 54 vs → Blk w' b 54 vs)

/-- The lists of a message of a net's own lie in none of the net's blocks. -/
theorem Holds.spot_blk {w : World} {base : Nat} {x : Qm} {c : Cont} {L : Lay} {q : Nat → List Qm} (h : Holds w base x c) (hN : NetAt w L q) {b : Nat} (hb : Spot x.wa x.wl b ∨ Spot x.pa x.pl b) : ¬ L.blk b := by
  have hlen := h.wl
  have cell : ∃ v, w.cell? ⟨b, 0, none⟩ = some v ∧ ((∃ s, v = .string s) ∨ ∃ z, v = .int .i64 z) := by
    rcases hb with ⟨a, ha, hn, rfl⟩ | ⟨a, ha, hn, rfl⟩
    · have hw := h.ws
      rw [ha] at hw
      have hne : 0 < c.ws.length := by omega
      have h0 := hw.cells rfl 0 _ (wcells_at c.ws 0 hne).1
      rcases hw.2 with ⟨hv, _⟩ | ⟨g, cap, cur, hv, _⟩
      · simp at hv
      · simp only [Value.slice.injEq, Option.some.injEq, true_and] at hv
        obtain ⟨rfl, rfl⟩ := hv
        exact ⟨_, by simpa [Addr.add] using h0, .inl ⟨_, rfl⟩⟩
    · have hp := h.ps
      rw [ha] at hp
      have hne : 0 < c.ps.length := by omega
      have h0 := hp.cells rfl 0 (.int .i64 c.ps[0]) (by simp [pcells, hne])
      rcases hp.2 with ⟨hv, _⟩ | ⟨g, cap, cur, hv, _⟩
      · simp at hv
      · simp only [Value.slice.injEq, Option.some.injEq, true_and] at hv
        obtain ⟨rfl, rfl⟩ := hv
        exact ⟨_, by simpa [Addr.add] using h0, .inr ⟨_, rfl⟩⟩
  obtain ⟨v, hv, hk⟩ := cell
  have hpos := hN.pos
  rintro (rfl | rfl | rfl | ⟨i, hi, rfl⟩)
  · exact h.odd (h.spot hb) ⟨_, _, hN.top, by decide, by decide⟩
  · have := hN.up 0 (by omega)
    rw [hv] at this
    rcases hk with ⟨s, rfl⟩ | ⟨s, rfl⟩ <;> simp at this
  · have := hN.down 0 (by omega)
    rw [hv] at this
    rcases hk with ⟨s, rfl⟩ | ⟨s, rfl⟩ <;> simp at this
  · exact h.not_blk hN (h.spot hb) hi rfl

/-- Behind a message that was taken on both sides, and written over. -/
theorem take_done {w0 w w3 w4 w6 w7 : World} {L : Lay} {q : Nat → List Qm} {ps pre post : List Pc} {p0 : Pc} {fr de : Int} {i : Nat} {x : Qm} {rest : List Qm} {len : Nat} {a2 : Option Addr} {cap2 b2 : Nat} {u0 u1 : Value}
    (h : State w w0.heap.size L q ps) (low : Below w0.heap.size w0 w) (ab : ∀ b, L.blk b → w0.heap.size ≤ b) (hr : rowIx L.n fr de = some i) (hq : q i = x :: rest) (hps : ps = pre ++ p0 :: post) (hpre : ∀ p ∈ pre, ¬ (p.1.frm = fr ∧ p.1.dest = de)) (hp0 : p0.1.frm = fr ∧ p0.1.dest = de)
    (hx : Holds w w0.heap.size x p0.2) (k3 : Keep (fun _ => False) w w3) (hR : RefAt w3 b2 a2 (len - 1) cap2 ((ps.map Prod.fst).take pre.length ++ (ps.map Prod.fst).drop (pre.length + 1)))
    (hN : NetAt w4 L (put q i rest)) (k4 : Keep (fun b => b = L.c i) w3 w4) (k6 : Keep (fun _ => False) w4 w6) (k7 : Keep (fun b => Spot x.wa x.wl b ∨ Spot x.pa x.pl b) w6 w7)
    (o7 : Blk w7 (w.heap.size + 2) 54 [u0, u1]) (v0 v1 : Value) (o6 : Blk w6 (w.heap.size + 2) 54 [u0, u1]) :
    State ((w7.setCell ⟨w.heap.size + 2, 0, none⟩ v0).setCell ⟨w.heap.size + 2, 1, none⟩ v1) w0.heap.size L (put q i rest) (pre ++ post) ∧
    RefAt ((w7.setCell ⟨w.heap.size + 2, 0, none⟩ v0).setCell ⟨w.heap.size + 2, 1, none⟩ v1) b2 a2 (len - 1) cap2 ((pre ++ post).map Prod.fst) ∧
    Below w0.heap.size w0 ((w7.setCell ⟨w.heap.size + 2, 0, none⟩ v0).setCell ⟨w.heap.size + 2, 1, none⟩ v1) ∧
    (∀ b vs, Blk w b 54 vs → Blk ((w7.setCell ⟨w.heap.size + 2, 0, none⟩ v0).setCell ⟨w.heap.size + 2, 1, none⟩ v1) b 54 vs) := by
  have hi := rowIx_lt hr
  obtain ⟨_, k8⟩ := set_two o7 v0 v1
  have n3 := h.net.keep k3 (fun _ _ h => h)
  have x3 := hx.keep k3 (fun _ _ h => h)
  have x6 := (x3.keep_net n3 hi k4).keep k6 (fun _ _ h => h)
  have kall : Keep (fun b => b = L.c i ∨ (Spot x.wa x.wl b ∨ Spot x.pa x.pl b)) w ((w7.setCell ⟨w.heap.size + 2, 0, none⟩ v0).setCell ⟨w.heap.size + 2, 1, none⟩ v1) :=
    ((((k3.mono (T := fun b => b = L.c i ∨ (Spot x.wa x.wl b ∨ Spot x.pa x.pl b)) (fun _ h => h.elim)).trans k4 (fun _ h => .inl (.inl h))).none_trans k6).trans k7 (fun _ h => .inl (.inr h))).trans k8 (fun i e => .inr (by omega))
  have k48 : Keep (fun b => (Spot x.wa x.wl b ∨ Spot x.pa x.pl b) ∨ b = w.heap.size + 2) w4 ((w7.setCell ⟨w.heap.size + 2, 0, none⟩ v0).setCell ⟨w.heap.size + 2, 1, none⟩ v1) :=
    ((k6.mono (T := fun b => (Spot x.wa x.wl b ∨ Spot x.pa x.pl b) ∨ b = w.heap.size + 2) (fun _ h => h.elim)).trans k7 (fun _ h => .inl (.inl h))).trans k8 (fun _ h => .inl (.inr h))
  have n8 := hN.keep k48 (fun b hb e => by
    rcases e with e | e
    · exact hx.spot_blk h.net e hb
    · have := h.net.blk_lt hb; omega)
  have r4 := hR.keep k4 (fun j hj e => by
    obtain ⟨cur, hc⟩ := owns_cells hR.row hj
    obtain ⟨s', r', hc'⟩ := n3.ch i hi
    rw [e] at hc
    rw [hc] at hc'
    simp at hc')
  have r6 := r4.keep k6 (fun _ _ h => h)
  have r7 := r6.keep k7 (fun j hj e => by
    obtain ⟨cur, hc⟩ := owns_cells r6.row hj
    exact x6.odd (hx.spot e) ⟨_, _, hc, by decide, by decide⟩)
  have r8 := r7.keep k8 (fun j hj e => owns_ne r7.row o7 (by decide) hj e)
  refine ⟨h.take hr hq hps hpre hp0 n8 (fun y d hy ha => hy.keep kall (fun b hb e => ?_)), ?_, low.trans (kall.below low.size (fun b hb e => ?_)), same54 h.net kall (fun b hb e => ?_)⟩
  · rcases e with e | e
    · exact hy.not_blk h.net hb hi e
    · exact ha b (hx.spot e) hb
  · have e : (pre ++ post).map Prod.fst = (ps.map Prod.fst).take pre.length ++ (ps.map Prod.fst).drop (pre.length + 1) := by
      rw [hps, ← List.map_take, ← List.map_drop, ← List.map_append]
      congr 1
      rw [List.take_append_of_le_length (Nat.le_refl _), List.take_length, List.drop_append]
      simp
    rw [e]
    exact r8
  · rcases e with e | e
    · have := ab _ (.inr (.inr (.inr ⟨i, hi, e⟩))); omega
    · have := (hx.lt (hx.spot e)).1; omega
  · rcases e with e | e
    · exact .inl ⟨i, hi, e⟩
    · rcases hx.spot e with e | e
      · obtain ⟨cur, hc⟩ := owns_cells hx.ws e; exact .inr ⟨cur, _, hc, by decide⟩
      · obtain ⟨cur, hc⟩ := owns_cells hx.ps e; exact .inr ⟨cur, _, hc, by decide⟩

set_option maxHeartbeats 2000000 in
set_option maxRecDepth 100000 in
theorem step_take_some (w0 : World) (L : Lay) (q : Nat → List Qm) (ps : List Pc) (base' : Nat) (a : Option Addr) (len cap : Nat) (fr de nn : Int) (ms : Qm) (w : World) (h : State w w0.heap.size L q ps) (hR : RefAt w base' a len cap (ps.map Prod.fst)) (hlow : Below w0.heap.size w0 w) (hab : ∀ b, L.blk b → w0.heap.size ≤ b) (hlen : len ≤ 1000000)
    (i : Nat) (x : Qm) (rest : List Qm) (hr : rowIx L.n fr de = some i) (hq : q i = x :: rest) :
    Calls Try.prog 23 #[.pointer (some ⟨L.b, 0, none⟩), .agg #[.int .i64 L.n, .slice a len cap], .agg #[.int .i64 1, .int .i64 fr, .int .i64 de, .int .i64 nn, .int .i64 ms.kind, .int .i64 ms.txn, .int .i64 ms.page, .int .i64 ms.dst, .bool ms.fast, .int .u64 ms.lsn, .slice ms.wa ms.wl ms.wc, .slice ms.pa ms.pl ms.pc, .string ms.body]] w (StepPost w0 w L len) := by
  have O1 : Hid (Own3 (((w.alloc (.cells #[.int .i64 L.n, .slice a len cap] 54)).alloc (.cells #[.int .i64 1, .int .i64 fr, .int .i64 de, .int .i64 nn, .int .i64 ms.kind, .int .i64 ms.txn, .int .i64 ms.page, .int .i64 ms.dst, .bool ms.fast, .int .u64 ms.lsn, .slice ms.wa ms.wl ms.wc, .slice ms.pa ms.pl ms.pc, .string ms.body] 41)).alloc (.cells #[.int .i64 0, .slice none 0 0] 54)) w.heap.size [.int .i64 L.n, .slice a len cap] (OpV.cells ⟨1, fr, de, nn, ms⟩) [.int .i64 0, .slice none 0 0]) := Own3.new w [.int .i64 L.n, .slice a len cap] (OpV.cells ⟨1, fr, de, nn, ms⟩) [.int .i64 0, .slice none 0 0]
  have K1 : Hid (Keep (fun _ => False) w (((w.alloc (.cells #[.int .i64 L.n, .slice a len cap] 54)).alloc (.cells #[.int .i64 1, .int .i64 fr, .int .i64 de, .int .i64 nn, .int .i64 ms.kind, .int .i64 ms.txn, .int .i64 ms.page, .int .i64 ms.dst, .bool ms.fast, .int .u64 ms.lsn, .slice ms.wa ms.wl ms.wc, .slice ms.pa ms.pl ms.pc, .string ms.body] 41)).alloc (.cells #[.int .i64 0, .slice none 0 0] 54))) := (((Keep.refl _ _).alloc _).alloc _).alloc _
  have HS := Lib.hid h
  have HRef := Lib.hid hR
  have LOW := Lib.hid hlow
  have AB := Lib.hid hab
  have HRow := Lib.hid hr
  have HQ := Lib.hid hq
  -- the first of the document's items between the two places
  have hrow := h.rows _ _ _ hr
  obtain ⟨p0, more, hsel⟩ : ∃ p0 more, selP fr de ps = p0 :: more := by
    rcases hs : selP fr de ps with _ | ⟨p0, more⟩
    · rw [hs, hq] at hrow
      have := hrow.len
      simp at this
    · exact ⟨p0, more, rfl⟩
  obtain ⟨pre, post, hps, hpre, hp0, hmore⟩ := selP_cons fr de ps p0 more hsel
  have PS := Lib.hid hps
  have PRE := Lib.hid hpre
  have P0 := Lib.hid hp0
  have HX : Hid (Holds w w0.heap.size x p0.2) := by
    rw [hsel, hq] at hrow
    exact hrow.get 0 x p0.2 rfl rfl
  have HZ : Hid (Holds w w0.heap.size p0.1.m p0.2 ∧ p0.2.few) := h.held p0 (by rw [hps]; exact List.mem_append_right _ List.mem_cons_self)
  have AW : Hid (Away x p0.1.m) := h.ar i x p0 (rowIx_lt hr) (by rw [hq]; exact List.mem_cons_self) (by rw [hps]; exact List.mem_append_right _ List.mem_cons_self)
  have ZAT : Hid ((ps.map Prod.fst)[pre.length]? = some p0.1) := by rw [hps]; exact Lib.hid (by simp)
  have ZNO : Hid (∀ (i : Nat) y, i < pre.length → (ps.map Prod.fst)[i]? = some y → ¬ y.is fr de) := by
    refine Lib.hid (fun i y hi hy => ?_)
    rw [hps, List.map_append, List.getElem?_append_left (by simpa using hi), List.getElem?_map] at hy
    obtain ⟨p, hp, rfl⟩ := Option.map_eq_some_iff.1 hy
    exact hpre p (List.mem_of_getElem? hp)
  obtain ⟨⟨⟨zf, zd, zm⟩, zc⟩, hz⟩ : ∃ p, p = p0 := ⟨p0, rfl⟩
  subst hz
  clear h hR hlow hab hr hq hsel hps hpre hp0 hmore hrow
  go_enter Try.func23, Try.ntmps23
  go_wp2_with fail
  refine (refTake_some L.n a len cap base' (ps.map Prod.fst) fr de pre.length ⟨zf, zd, zm⟩ _ (HRef.out.keep K1.out (fun _ _ h => h)) hlen ZAT.out P0.out ZNO.out).mono ?_
  rintro e w2 ⟨a2, cap2, rfl, hR2, hk2⟩
  have K2 := Lib.hid (K1.out.none_trans hk2)
  have O2 := Lib.hid (O1.out.keep hk2 (fun _ _ _ h => h))
  have R2 := Lib.hid hR2
  have o1 := O2.out.o.at (i := 1) rfl
  have o2 := O2.out.o.at (i := 2) rfl
  have s1 := O2.out.o.lt
  clear hR2 hk2 K1 O1
  go_upto_region 20 with fail
  have B3 := new_two w2 54 33 [.int .i64 L.n, .slice a2 (len - 1) cap2] [.int .i64 zm.kind, .int .i64 zm.txn, .int .i64 zm.page, .int .i64 zm.dst, .bool zm.fast, .int .u64 zm.lsn, .slice zm.wa zm.wl zm.wc, .slice zm.pa zm.pl zm.pc, .string zm.body]
  generalize (w2.alloc (.cells #[.int .i64 L.n, .slice a2 (len - 1) cap2] 54)).alloc (.cells #[.int .i64 zm.kind, .int .i64 zm.txn, .int .i64 zm.page, .int .i64 zm.dst, .bool zm.fast, .int .u64 zm.lsn, .slice zm.wa zm.wl zm.wc, .slice zm.pa zm.pl zm.pc, .string zm.body] 33) = w3 at B3 ⊢
  have XB := Lib.hid B3.1
  have MB := Lib.hid B3.2.1
  have K3 := Lib.hid (K2.out.none_trans B3.2.2)
  have O3 := Lib.hid (O2.out.keep B3.2.2 (fun _ _ _ h => h))
  have R3 := Lib.hid (R2.out.keep B3.2.2 (fun _ _ h => h))
  have WS := Lib.hid O2.out.r.lt
  clear B3 O2 R2 K2 o1 o2 s1
  generalize w2.heap.size = xb at XB MB WS ⊢
  have o1 := O3.out.o.at (i := 1) rfl
  have o2 := O3.out.o.at (i := 2) rfl
  have N3 := Lib.hid (HS.out.net.keep K3.out (fun _ _ h => h))
  have ci : Hid (L.c i < w.heap.size) := HS.out.net.blk_lt (.inr (.inr (.inr ⟨i, rowIx_lt HRow.out, rfl⟩)))
  go_wp2_with fail
  refine (take_some L q fr de i x rest w3 N3.out HRow.out HQ.out).mono ?_
  rintro e w4 ⟨rfl, hN4, hk4⟩
  have N4 := Lib.hid hN4
  have K4 := Lib.hid hk4
  have O4 := Lib.hid (O3.out.keep hk4 (fun b h1 h2 e => by have := ci.out; omega))
  have X4 := Lib.hid (XB.out.keep hk4 (by have := ci.out; have := WS.out; omega))
  have M4 := Lib.hid (MB.out.keep hk4 (by have := ci.out; have := WS.out; omega))
  clear hN4 hk4 o1 o2 N3
  go_upto_region 21 with fail
  have B5 := new_one w4 33 [.int .i64 x.kind, .int .i64 x.txn, .int .i64 x.page, .int .i64 x.dst, .bool x.fast, .int .u64 x.lsn, .slice x.wa x.wl x.wc, .slice x.pa x.pl x.pc, .string x.body]
  generalize w4.alloc (.cells #[.int .i64 x.kind, .int .i64 x.txn, .int .i64 x.page, .int .i64 x.dst, .bool x.fast, .int .u64 x.lsn, .slice x.wa x.wl x.wc, .slice x.pa x.pl x.pc, .string x.body] 33) = w5 at B5 ⊢
  have K5 := Lib.hid B5.2
  have Y5 := Lib.hid B5.1
  have X5 := Lib.hid (X4.out.keep B5.2 (fun h => h))
  have M5 := Lib.hid (M4.out.keep B5.2 (fun h => h))
  have O5 := Lib.hid (O4.out.keep B5.2 (fun _ _ _ h => h))
  have YS : Hid (xb + 1 < w4.heap.size) := M4.out.lt
  clear B5 X4 M4 O4
  generalize w4.heap.size = yb at Y5 YS ⊢
  have m0 := M5.out.at (i := 0) rfl
  have m1 := M5.out.at (i := 1) rfl
  have m2 := M5.out.at (i := 2) rfl
  have m3 := M5.out.at (i := 3) rfl
  have m4 := M5.out.at (i := 4) rfl
  have m5 := M5.out.at (i := 5) rfl
  have m6 := M5.out.at (i := 6) rfl
  have m7 := M5.out.at (i := 7) rfl
  have m8 := M5.out.at (i := 8) rfl
  have y0 := Y5.out.at (i := 0) rfl
  have y1 := Y5.out.at (i := 1) rfl
  have y2 := Y5.out.at (i := 2) rfl
  have y3 := Y5.out.at (i := 3) rfl
  have y4 := Y5.out.at (i := 4) rfl
  have y5 := Y5.out.at (i := 5) rfl
  have y6 := Y5.out.at (i := 6) rfl
  have y7 := Y5.out.at (i := 7) rfl
  have y8 := Y5.out.at (i := 8) rfl
  have ZH5 := Lib.hid (((HZ.out.1.keep K3.out (fun _ _ h => h)).keep_net (HS.out.net.keep K3.out (fun _ _ h => h)) (rowIx_lt HRow.out) K4.out).keep K5.out (fun _ _ h => h))
  have XH5 := Lib.hid (((HX.out.keep K3.out (fun _ _ h => h)).keep_net (HS.out.net.keep K3.out (fun _ _ h => h)) (rowIx_lt HRow.out) K4.out).keep K5.out (fun _ _ h => h))
  go_wp2_with fail
  refine (same_reads zm x zc _ ZH5.out.reads XH5.out.reads HZ.out.2).mono ?_
  rintro e w6 ⟨rfl, hk6⟩
  have K6 := Lib.hid (K5.out.none_trans hk6)
  have O6 := Lib.hid (O5.out.keep hk6 (fun _ _ _ h => h))
  have X6 := Lib.hid (X5.out.keep hk6 (fun h => h))
  have XH6 := Lib.hid (XH5.out.keep hk6 (fun _ _ h => h))
  replace y0 := hk6.got y0 (fun h => h)
  replace y1 := hk6.got y1 (fun h => h)
  replace y2 := hk6.got y2 (fun h => h)
  replace y3 := hk6.got y3 (fun h => h)
  replace y4 := hk6.got y4 (fun h => h)
  replace y5 := hk6.got y5 (fun h => h)
  replace y6 := hk6.got y6 (fun h => h)
  replace y7 := hk6.got y7 (fun h => h)
  replace y8 := hk6.got y8 (fun h => h)
  clear hk6 m0 m1 m2 m3 m4 m5 m6 m7 m8 M5 Y5 X5 O5 ZH5 XH5 K5
  go_wp2_with fail
  refine (spoil_any x _ XH6.out.mine.1 XH6.out.mine.2 ?_ ?_).mono ?_
  · have := XH6.out.wl.1; have := HZ.out.2.1; omega
  · have := XH6.out.wl.2; have := HZ.out.2.2; omega
  rintro e w7 ⟨rfl, hk7⟩
  have sp : ∀ b T vs, Blk w6 b T vs → T ≠ 67 → T ≠ 3 → ¬ (Spot x.wa x.wl b ∨ Spot x.pa x.pl b) := fun b T vs hb h1 h2 e => XH6.out.other hb h1 h2 b (XH6.out.spot e) rfl
  have X7 := X6.out.keep hk7 (sp _ _ _ X6.out (by decide) (by decide))
  have O7r := O6.out.r.keep hk7 (sp _ _ _ O6.out.r (by decide) (by decide))
  have x0 := X7.at (i := 0) rfl
  have x1 := X7.at (i := 1) rfl
  have r0 := O7r.at (i := 0) rfl
  have r1 := O7r.at (i := 1) rfl
  have frz := O7r.free
  have D := Lib.hid (take_done HS.out LOW.out AB.out HRow.out HQ.out PS.out PRE.out P0.out HX.out K3.out R3.out N4.out K4.out K6.out hk7 O7r (.int .i64 L.n) (.slice a2 (len - 1) cap2) O6.out.r)
  have BR := set_two O7r (.int .i64 L.n) (.slice a2 (len - 1) cap2)
  have q0 := BR.1.at (i := 0) rfl
  have q1 := BR.1.at (i := 1) rfl
  have ne1 : w.heap.size + 2 ≠ xb := by have := WS.out; omega
  clear sp X7 O7r BR hk7 y0 y1 y2 y3 y4 y5 y6 y7 y8
  go_wp2_with fail
  refine bodyPost_ret (v := .tuple #[.agg #[.int .i64 L.n, .slice a2 (len - 1) cap2], .bool true]) (by simp [results, Try.results23, go_sem, q0, q1]) rfl ⟨_, _, a2, len - 1, cap2, rfl, D.out.1, ⟨_, D.out.2.1⟩, by omega, D.out.2.2.1, D.out.2.2.2⟩

def noMsg : Qm := ⟨0, 0, 0, 0, false, 0, none, 0, 0, none, 0, 0, ⟨#[]⟩⟩
def noCont : Cont := ⟨0, 0, 0, 0, false, 0, [], [], ⟨#[]⟩⟩
theorem noReads (w : World) : Reads w noMsg noCont := ⟨⟨rfl, rfl, rfl, rfl, rfl, rfl, rfl⟩, .inl ⟨rfl, rfl, rfl, rfl⟩, .inl ⟨rfl, rfl, rfl, rfl⟩⟩

theorem take_no {w W : World} {base : Nat} {L : Lay} {q : Nat → List Qm} {ps : List Pc} (h : State w base L q ps) (f t : Int) (hsel : selP f t ps = []) (hN : NetAt W L q) :
    Calls Try.prog 13 #[.pointer (some ⟨L.b, 0, none⟩), .int .i64 f, .int .i64 t] W fun e w' =>
      e = .returned (.tuple #[.agg #[.int .i64 0, .int .i64 0, .int .i64 0, .int .i64 0, .bool false, .int .u64 0, .slice none 0 0, .slice none 0 0, .string ⟨#[]⟩], .bool false]) ∧ Keep (fun _ => False) W w' := by
  rcases hr : rowIx L.n f t with _ | i
  · exact take_none L q f t W hN hr
  · have hl := (h.rows f t i hr).len
    rw [hsel] at hl
    exact take_empty L q f t i W hN hr (List.eq_nil_of_length_eq_zero (by simpa using hl))

set_option maxHeartbeats 2000000 in
set_option maxRecDepth 100000 in
theorem step_take_none (w0 : World) (L : Lay) (q : Nat → List Qm) (ps : List Pc) (base' : Nat) (a : Option Addr) (len cap : Nat) (fr de nn : Int) (ms : Qm) (w : World) (h : State w w0.heap.size L q ps) (hR : RefAt w base' a len cap (ps.map Prod.fst)) (hlow : Below w0.heap.size w0 w) (hlen : len ≤ 1000000)
    (hsel : selP fr de ps = []) :
    Calls Try.prog 23 #[.pointer (some ⟨L.b, 0, none⟩), .agg #[.int .i64 L.n, .slice a len cap], .agg #[.int .i64 1, .int .i64 fr, .int .i64 de, .int .i64 nn, .int .i64 ms.kind, .int .i64 ms.txn, .int .i64 ms.page, .int .i64 ms.dst, .bool ms.fast, .int .u64 ms.lsn, .slice ms.wa ms.wl ms.wc, .slice ms.pa ms.pl ms.pc, .string ms.body]] w (StepPost w0 w L len) := by
  have O1 : Hid (Own3 (((w.alloc (.cells #[.int .i64 L.n, .slice a len cap] 54)).alloc (.cells #[.int .i64 1, .int .i64 fr, .int .i64 de, .int .i64 nn, .int .i64 ms.kind, .int .i64 ms.txn, .int .i64 ms.page, .int .i64 ms.dst, .bool ms.fast, .int .u64 ms.lsn, .slice ms.wa ms.wl ms.wc, .slice ms.pa ms.pl ms.pc, .string ms.body] 41)).alloc (.cells #[.int .i64 0, .slice none 0 0] 54)) w.heap.size [.int .i64 L.n, .slice a len cap] (OpV.cells ⟨1, fr, de, nn, ms⟩) [.int .i64 0, .slice none 0 0]) := Own3.new w [.int .i64 L.n, .slice a len cap] (OpV.cells ⟨1, fr, de, nn, ms⟩) [.int .i64 0, .slice none 0 0]
  have K1 : Hid (Keep (fun _ => False) w (((w.alloc (.cells #[.int .i64 L.n, .slice a len cap] 54)).alloc (.cells #[.int .i64 1, .int .i64 fr, .int .i64 de, .int .i64 nn, .int .i64 ms.kind, .int .i64 ms.txn, .int .i64 ms.page, .int .i64 ms.dst, .bool ms.fast, .int .u64 ms.lsn, .slice ms.wa ms.wl ms.wc, .slice ms.pa ms.pl ms.pc, .string ms.body] 41)).alloc (.cells #[.int .i64 0, .slice none 0 0] 54))) := (((Keep.refl _ _).alloc _).alloc _).alloc _
  have HS := Lib.hid h
  have HRef := Lib.hid hR
  have LOW := Lib.hid hlow
  have SEL := Lib.hid hsel
  have ZNO : Hid (∀ (i : Nat) y, (ps.map Prod.fst)[i]? = some y → ¬ y.is fr de) := by
    refine Lib.hid (fun i y hy hh => ?_)
    rw [List.getElem?_map] at hy
    obtain ⟨p, hp, rfl⟩ := Option.map_eq_some_iff.1 hy
    have hm : p ∈ selP fr de ps := List.mem_filter.2 ⟨List.mem_of_getElem? hp, by obtain ⟨h1, h2⟩ := hh; simp [h1, h2]⟩
    rw [hsel] at hm
    simp at hm
  clear h hR hlow hsel
  go_enter Try.func23, Try.ntmps23
  go_wp2_with fail
  refine (refTake_none L.n a len cap base' (ps.map Prod.fst) fr de _ (HRef.out.keep K1.out (fun _ _ h => h)) hlen ZNO.out).mono ?_
  rintro e w2 ⟨rfl, hk2⟩
  have K2 := Lib.hid (K1.out.none_trans hk2)
  have O2 := Lib.hid (O1.out.keep hk2 (fun _ _ _ h => h))
  clear hk2 K1 O1
  go_upto_region 20 with fail
  have B3 := new_two w2 54 33 [.int .i64 L.n, .slice a len cap] [.int .i64 0, .int .i64 0, .int .i64 0, .int .i64 0, .bool false, .int .u64 0, .slice none 0 0, .slice none 0 0, .string ⟨#[]⟩]
  generalize (w2.alloc (.cells #[.int .i64 L.n, .slice a len cap] 54)).alloc (.cells #[.int .i64 0, .int .i64 0, .int .i64 0, .int .i64 0, .bool false, .int .u64 0, .slice none 0 0, .slice none 0 0, .string ⟨#[]⟩] 33) = w3 at B3 ⊢
  have XB := Lib.hid B3.1
  have MB := Lib.hid B3.2.1
  have K3 := Lib.hid (K2.out.none_trans B3.2.2)
  have O3 := Lib.hid (O2.out.keep B3.2.2 (fun _ _ _ h => h))
  have WS := Lib.hid O2.out.r.lt
  clear B3 O2 K2
  generalize w2.heap.size = xb at XB MB WS ⊢
  have o1 := O3.out.o.at (i := 1) rfl
  have o2 := O3.out.o.at (i := 2) rfl
  go_wp2_with fail
  refine (take_no HS.out fr de SEL.out (HS.out.net.keep K3.out (fun _ _ h => h))).mono ?_
  rintro e w4 ⟨rfl, hk4⟩
  have K4 := Lib.hid (K3.out.none_trans hk4)
  have O4 := Lib.hid (O3.out.keep hk4 (fun _ _ _ h => h))
  have X4 := Lib.hid (XB.out.keep hk4 (fun h => h))
  have M4 := Lib.hid (MB.out.keep hk4 (fun h => h))
  clear hk4 o1 o2 O3 XB MB K3
  go_upto_region 21 with fail
  have B5 := new_one w4 33 [.int .i64 0, .int .i64 0, .int .i64 0, .int .i64 0, .bool false, .int .u64 0, .slice none 0 0, .slice none 0 0, .string ⟨#[]⟩]
  generalize w4.alloc (.cells #[.int .i64 0, .int .i64 0, .int .i64 0, .int .i64 0, .bool false, .int .u64 0, .slice none 0 0, .slice none 0 0, .string ⟨#[]⟩] 33) = w5 at B5 ⊢
  have K5 := Lib.hid (K4.out.none_trans B5.2)
  have Y5 := Lib.hid B5.1
  have X5 := Lib.hid (X4.out.keep B5.2 (fun h => h))
  have M5 := Lib.hid (M4.out.keep B5.2 (fun h => h))
  have O5 := Lib.hid (O4.out.keep B5.2 (fun _ _ _ h => h))
  have YS : Hid (xb + 1 < w4.heap.size) := M4.out.lt
  clear B5 X4 M4 O4 K4
  generalize w4.heap.size = yb at Y5 YS ⊢
  have m0 := M5.out.at (i := 0) rfl
  have y0 := Y5.out.at (i := 0) rfl
  have m1 := M5.out.at (i := 1) rfl
  have y1 := Y5.out.at (i := 1) rfl
  have m2 := M5.out.at (i := 2) rfl
  have y2 := Y5.out.at (i := 2) rfl
  have m3 := M5.out.at (i := 3) rfl
  have y3 := Y5.out.at (i := 3) rfl
  have m4 := M5.out.at (i := 4) rfl
  have y4 := Y5.out.at (i := 4) rfl
  have m5 := M5.out.at (i := 5) rfl
  have y5 := Y5.out.at (i := 5) rfl
  have m6 := M5.out.at (i := 6) rfl
  have y6 := Y5.out.at (i := 6) rfl
  have m7 := M5.out.at (i := 7) rfl
  have y7 := Y5.out.at (i := 7) rfl
  have m8 := M5.out.at (i := 8) rfl
  have y8 := Y5.out.at (i := 8) rfl
  go_wp2_with fail
  refine (same_reads noMsg noMsg noCont _ (noReads _) (noReads _) ⟨by simp [noCont], by simp [noCont]⟩).mono ?_
  rintro e w6 ⟨rfl, hk6⟩
  have K6 := Lib.hid (K5.out.none_trans hk6)
  have O6 := Lib.hid (O5.out.keep hk6 (fun _ _ _ h => h))
  have X6 := Lib.hid (X5.out.keep hk6 (fun h => h))
  replace y0 := hk6.got y0 (fun h => h)
  replace y1 := hk6.got y1 (fun h => h)
  replace y2 := hk6.got y2 (fun h => h)
  replace y3 := hk6.got y3 (fun h => h)
  replace y4 := hk6.got y4 (fun h => h)
  replace y5 := hk6.got y5 (fun h => h)
  replace y6 := hk6.got y6 (fun h => h)
  replace y7 := hk6.got y7 (fun h => h)
  replace y8 := hk6.got y8 (fun h => h)
  clear hk6 m0 m1 m2 m3 m4 m5 m6 m7 m8 M5 Y5 X5 O5 K5
  go_wp2_with fail
  refine (spoil_any noMsg _ (.inl rfl) (.inl rfl) (by simp [noMsg]) (by simp [noMsg])).mono ?_
  rintro e w7 ⟨rfl, hk7⟩
  replace hk7 := hk7.mono (T := fun _ => False) (fun b e => by rcases e with ⟨_, h, _⟩ | ⟨_, h, _⟩ <;> simp [noMsg] at h)
  have X7 := X6.out.keep hk7 (fun h => h)
  have O7r := O6.out.r.keep hk7 (fun h => h)
  have x0 := X7.at (i := 0) rfl
  have x1 := X7.at (i := 1) rfl
  have r0 := O7r.at (i := 0) rfl
  have r1 := O7r.at (i := 1) rfl
  have frz := O7r.free
  have BR := set_two O7r (.int .i64 L.n) (.slice a len cap)
  have q0 := BR.1.at (i := 0) rfl
  have q1 := BR.1.at (i := 1) rfl
  have KA : Hid (Keep (fun _ => False) w ((w7.setCell ⟨w.heap.size + 2, 0, none⟩ (.int .i64 L.n)).setCell ⟨w.heap.size + 2, 1, none⟩ (.slice a len cap))) := (K6.out.none_trans hk7).trans BR.2 (fun i e => .inr (by omega))
  have ne1 : w.heap.size + 2 ≠ xb := by have := WS.out; omega
  clear X7 O7r BR hk7 y0 y1 y2 y3 y4 y5 y6 y7 y8
  go_wp2_with fail
  refine bodyPost_ret (v := .tuple #[.agg #[.int .i64 L.n, .slice a len cap], .bool true]) (by simp [results, Try.results23, go_sem, q0, q1]) rfl ⟨q, ps, a, len, cap, rfl, HS.out.keep KA.out (fun _ _ h => h), ⟨_, HRef.out.keep KA.out (fun _ _ h => h)⟩, by omega, keep0_below LOW.out KA.out, fun b vs hb => hb.keep KA.out (fun h => h)⟩

end Go.Proofs.Ytgphlopbbmjdhaa
