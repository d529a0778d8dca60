/- 'step' of NetPlays: a place is cut. -/
import Derived.Test.YtgphlopbbmjdhaaStepTake
namespace Go.Proofs.Ytgphlopbbmjdhaa
open Go.RowKit Go.Conc
set_option linter.unusedVariables false
set_option linter.unusedSimpArgs false

set_option maxHeartbeats 2000000 in
set_option maxRecDepth 100000 in
theorem step_cut_by (w0 : World) (L : Lay) (q q' : Nat → List Qm) (ps ps' : List Pc) (base' : Nat) (a : Option Addr) (len cap : Nat) (fr de nn : Int) (ms : Qm) (w : World) (h : State w w0.heap.size L q ps) (hR : RefAt w base' a len cap (ps.map Prod.fst)) (hlow : Below w0.heap.size w0 w) (hab : ∀ b, L.blk b → w0.heap.size ≤ b) (r : Int)
    (C30 : ∀ W, RefAt W base' a len cap (ps.map Prod.fst) → Calls Try.prog 30 #[.agg #[.int .i64 L.n, .slice a len cap], .int .i64 fr] W fun e w' => ∃ a2 len2 cap2, e = .returned (.tuple #[.agg #[.int .i64 L.n, .slice a2 len2 cap2], .int .i64 r]) ∧ (∃ b2, RefAt w' b2 a2 len2 cap2 (ps'.map Prod.fst)) ∧ len2 ≤ len ∧ Keep (fun _ => False) W w')
    (C21 : ∀ W, NetAt W L q → Calls Try.prog 21 #[.pointer (some ⟨L.b, 0, none⟩), .int .i64 fr] W fun e w' => e = .returned (.int .i64 r) ∧ NetAt w' L q' ∧ Keep (fun b => ∃ i, i < 2 * L.n ∧ b = L.c i) W w')
    (HE : ∀ wE, NetAt wE L q' → (∀ (y : Qm) (d : Cont), Holds w w0.heap.size y d → Holds wE w0.heap.size y d) → State wE w0.heap.size L q' ps') :
    Calls Try.prog 23 #[.pointer (some ⟨L.b, 0, none⟩), .agg #[.int .i64 L.n, .slice a len cap], .agg #[.int .i64 2, .int .i64 fr, .int .i64 de, .int .i64 nn, .int .i64 ms.kind, .int .i64 ms.txn, .int .i64 ms.page, .int .i64 ms.dst, .bool ms.fast, .int .u64 ms.lsn, .slice ms.wa ms.wl ms.wc, .slice ms.pa ms.pl ms.pc, .string ms.body]] w (StepPost w0 w L len) := by
  have O1 : Hid (Own3 (((w.alloc (.cells #[.int .i64 L.n, .slice a len cap] 54)).alloc (.cells #[.int .i64 2, .int .i64 fr, .int .i64 de, .int .i64 nn, .int .i64 ms.kind, .int .i64 ms.txn, .int .i64 ms.page, .int .i64 ms.dst, .bool ms.fast, .int .u64 ms.lsn, .slice ms.wa ms.wl ms.wc, .slice ms.pa ms.pl ms.pc, .string ms.body] 41)).alloc (.cells #[.int .i64 0, .slice none 0 0] 54)) w.heap.size [.int .i64 L.n, .slice a len cap] (OpV.cells ⟨2, fr, de, nn, ms⟩) [.int .i64 0, .slice none 0 0]) := Own3.new w [.int .i64 L.n, .slice a len cap] (OpV.cells ⟨2, fr, de, nn, ms⟩) [.int .i64 0, .slice none 0 0]
  have K1 : Hid (Keep (fun _ => False) w (((w.alloc (.cells #[.int .i64 L.n, .slice a len cap] 54)).alloc (.cells #[.int .i64 2, .int .i64 fr, .int .i64 de, .int .i64 nn, .int .i64 ms.kind, .int .i64 ms.txn, .int .i64 ms.page, .int .i64 ms.dst, .bool ms.fast, .int .u64 ms.lsn, .slice ms.wa ms.wl ms.wc, .slice ms.pa ms.pl ms.pc, .string ms.body] 41)).alloc (.cells #[.int .i64 0, .slice none 0 0] 54))) := (((Keep.refl _ _).alloc _).alloc _).alloc _
  have HS := Lib.hid h
  have HRef := Lib.hid hR
  have LOW := Lib.hid hlow
  have AB := Lib.hid hab
  have H30 := Lib.hid C30
  have H21 := Lib.hid C21
  have HEnd := Lib.hid HE
  clear h hR hlow hab C30 C21 HE
  go_enter Try.func23, Try.ntmps23
  go_wp2_with fail
  refine (H30.out _ (HRef.out.keep K1.out (fun _ _ h => h))).mono ?_
  rintro e w2 ⟨a2, len2, cap2, rfl, ⟨b2, hR2⟩, hl2, hk2⟩
  have K2 := Lib.hid (K1.out.none_trans hk2)
  have O2 := Lib.hid (O1.out.keep hk2 (fun _ _ _ h => h))
  have R2 := Lib.hid hR2
  clear hR2 hk2 K1 O1 H30
  go_upto_region 26 with fail
  have B3 := new_one w2 54 [.int .i64 L.n, .slice a2 len2 cap2]
  generalize w2.alloc (.cells #[.int .i64 L.n, .slice a2 len2 cap2] 54) = w3 at B3 ⊢
  have XB := Lib.hid B3.1
  have K3 := Lib.hid (K2.out.none_trans B3.2)
  have O3 := Lib.hid (O2.out.keep B3.2 (fun _ _ _ h => h))
  have R3 := Lib.hid (R2.out.keep B3.2 (fun _ _ h => h))
  have WS := Lib.hid O2.out.r.lt
  clear B3 O2 K2 R2
  generalize w2.heap.size = xb at XB WS ⊢
  have o1 := O3.out.o.at (i := 1) rfl
  have x0 := XB.out.at (i := 0) rfl
  have x1 := XB.out.at (i := 1) rfl
  have r0 := O3.out.r.at (i := 0) rfl
  have r1 := O3.out.r.at (i := 1) rfl
  have frz := O3.out.r.free
  have ci : Hid (∀ b, (∃ i, i < 2 * L.n ∧ b = L.c i) → b < w.heap.size) := Lib.hid (fun b ⟨i, hi, e⟩ => by subst e; exact HS.out.net.blk_lt (.inr (.inr (.inr ⟨i, hi, rfl⟩))))
  have N3 : Hid (NetAt w3.drew L q) := HS.out.net.keep K3.out.drew (fun _ _ h => h)
  have ne1 : w.heap.size + 2 ≠ xb := by have := WS.out; omega
  have ne2 : w.heap.size + 1 + 1 ≠ xb := by have := WS.out; omega
  go_region_held3 (fun w' => w'.cell? ⟨xb, 0, none⟩ = some (.int .i64 L.n) ∧ w'.cell? ⟨xb, 1, none⟩ = some (.slice a2 len2 cap2) ∧ w'.cell? ⟨w.heap.size + 1, 1, none⟩ = some (.int .i64 fr))
    (first | go_keep | (trace_state; fail))
    (first
      | (go_at_call 21
         refine (H21.out _ N3.out).mono ?_
         rintro e w4 ⟨rfl, hN4, hk4⟩
         replace hk4 := ((Keep.refl (fun b => ∃ i, i < 2 * L.n ∧ b = L.c i) w3).drew).trans hk4 (fun _ h => .inl h)
         have O4 := O3.out.keep (w' := w4) hk4 (fun b h1 h2 e => by have := ci.out b e; omega)
         have X4 : Blk w4 xb 54 [.int .i64 L.n, .slice a2 len2 cap2] := XB.out.keep hk4 (fun e => by have := ci.out _ e; have := WS.out; omega)
         have u0 := X4.at (i := 0) rfl
         have u1 := X4.at (i := 1) rfl
         have v1 := O4.o.at (i := 1) rfl
         have p0 := O4.r.at (i := 0) rfl
         have p1 := O4.r.at (i := 1) rfl
         have fz4 := O4.r.free))
  have BR := set_two O4.r (.int .i64 L.n) (.slice a2 len2 cap2)
  have q0 := BR.1.at (i := 0) rfl
  have q1 := BR.1.at (i := 1) rfl
  have k4 := (K3.out.mono (T := fun b => ∃ i, i < 2 * L.n ∧ b = L.c i) (fun _ h => h.elim)).trans hk4 (fun _ h => .inl h)
  have kall : Hid (Keep (fun b => ∃ i, i < 2 * L.n ∧ b = L.c i) w ((w4.setCell ⟨w.heap.size + 2, 0, none⟩ (.int .i64 L.n)).setCell ⟨w.heap.size + 2, 1, none⟩ (.slice a2 len2 cap2))) := k4.trans BR.2 (fun i e => .inr (by omega))
  have N8 : Hid (NetAt ((w4.setCell ⟨w.heap.size + 2, 0, none⟩ (.int .i64 L.n)).setCell ⟨w.heap.size + 2, 1, none⟩ (.slice a2 len2 cap2)) L q') := hN4.keep BR.2 (fun b hb e => by have := HS.out.net.blk_lt hb; omega)
  have R8 : Hid (RefAt ((w4.setCell ⟨w.heap.size + 2, 0, none⟩ (.int .i64 L.n)).setCell ⟨w.heap.size + 2, 1, none⟩ (.slice a2 len2 cap2)) b2 a2 len2 cap2 (ps'.map Prod.fst)) := (R3.out.keep hk4 (fun j hj e => by
    obtain ⟨cur, hc⟩ := owns_cells R3.out.row hj
    obtain ⟨i, hi, rfl⟩ := e
    obtain ⟨s', r', hc'⟩ := N3.out.ch i hi
    have hc'' : w3.heap[L.c i]? = some (.chan 256 ((q i).map Qm.val).toArray false s' r' false) := hc'
    rw [hc] at hc''
    simp at hc'')).keep BR.2 (fun j hj e => owns_ne (R3.out.keep hk4 (fun j hj e => by
    obtain ⟨cur, hc⟩ := owns_cells R3.out.row hj
    obtain ⟨i, hi, rfl⟩ := e
    obtain ⟨s', r', hc'⟩ := N3.out.ch i hi
    have hc'' : w3.heap[L.c i]? = some (.chan 256 ((q i).map Qm.val).toArray false s' r' false) := hc'
    rw [hc] at hc''
    simp at hc'')).row O4.r (by decide) hj e)
  clear hN4 hk4 O4 X4 u0 u1 v1 p0 p1 fz4 x0 x1 r0 r1 frz o1 BR k4
  go_wp2_with fail
  refine bodyPost_ret (v := .tuple #[.agg #[.int .i64 L.n, .slice a2 len2 cap2], .bool true]) (by simp [results, Try.results23, go_sem, q0, q1]) rfl ⟨q', ps', a2, len2, cap2, rfl, HEnd.out _ N8.out (Holds.past HS.out.net kall.out (fun b hb e => .inl e)), ⟨_, R8.out⟩, by omega, LOW.out.trans (kall.out.below LOW.out.size (fun b hb ⟨i, hi, e⟩ => by have := AB.out _ (.inr (.inr (.inr ⟨i, hi, e⟩))); omega)), same54 HS.out.net kall.out (fun b hb e => .inl e)⟩

theorem step_cut (w0 : World) (L : Lay) (q : Nat → List Qm) (ps : List Pc) (base' : Nat) (a : Option Addr) (len cap : Nat) (fr de nn : Int) (ms : Qm) (w : World) (h : State w w0.heap.size L q ps) (hR : RefAt w base' a len cap (ps.map Prod.fst)) (hlow : Below w0.heap.size w0 w) (hab : ∀ b, L.blk b → w0.heap.size ≤ b) (hlen : len ≤ 1000000) :
    Calls Try.prog 23 #[.pointer (some ⟨L.b, 0, none⟩), .agg #[.int .i64 L.n, .slice a len cap], .agg #[.int .i64 2, .int .i64 fr, .int .i64 de, .int .i64 nn, .int .i64 ms.kind, .int .i64 ms.txn, .int .i64 ms.page, .int .i64 ms.dst, .bool ms.fast, .int .u64 ms.lsn, .slice ms.wa ms.wl ms.wc, .slice ms.pa ms.pl ms.pc, .string ms.body]] w (StepPost w0 w L len) := by
  have hlen2 : len = ps.length := by rw [← hR.len, List.length_map]
  by_cases hp : 1 ≤ fr ∧ fr ≤ L.n
  · have hu : rowIx L.n fr 0 = some (fr - 1).toNat := by unfold rowIx; rw [if_neg (by omega), if_pos (by omega)]
    have hd : rowIx L.n 0 fr = some (L.n + (fr - 1).toNat) := by unfold rowIx; rw [if_pos (by omega)]
    have hne : (fr - 1).toNat ≠ L.n + (fr - 1).toNat := by have := h.net.pos; omega
    have hle : (leftP fr ps).length ≤ ps.length := List.length_filter_le _ _
    have heq : (leftP fr ps).length = (left fr (ps.map Prod.fst)).length := by rw [← leftP_fst, List.length_map]
    have hcount : (((q (fr - 1).toNat).length : Int) + ((q (L.n + (fr - 1).toNat)).length : Int)) = (len : Int) - ((left fr (ps.map Prod.fst)).length : Int) := by
      have hp0 : fr ≠ 0 := by omega
      have h1 := leftP_count hp0 ps h.valid
      have l1 := (h.rows _ _ _ hu).len
      have l2 := (h.rows _ _ _ hd).len
      rw [List.length_map] at l1 l2
      omega
    refine step_cut_by w0 L q _ ps (leftP fr ps) base' a len cap fr de nn ms w h hR hlow hab _ (fun W hW => (refCut_some L.n a len cap base' (ps.map Prod.fst) fr W hW hlen hp.1 hp.2).mono fun e w' ⟨a2, cap2, he, hR2, hk⟩ => ⟨a2, _, cap2, he, ⟨_, by rw [leftP_fst]; exact hR2⟩, by omega, hk⟩)
      (fun W hN => (cut_some L q fr _ _ W hN hu hd hne).mono fun e w' ⟨he, hN2, hk⟩ => ⟨by rw [he, hcount], hN2, hk.mono (fun b e => by rcases e with e | e; exact ⟨_, rowIx_lt hu, e⟩; exact ⟨_, rowIx_lt hd, e⟩)⟩) (fun wE hN old => (h.cut hu hd hne hN old).1)
  · have hu : rowIx L.n fr 0 = none := by unfold rowIx; rw [if_neg (by omega), if_neg (by omega)]
    have hd : rowIx L.n 0 fr = none := by unfold rowIx; rw [if_neg (by omega), if_neg (by omega)]
    refine step_cut_by w0 L q q ps ps base' a len cap fr de nn ms w h hR hlow hab 0 (fun W hW => (refCut_none L.n a len cap fr W hp).mono fun e w' ⟨he, hk⟩ => ⟨a, len, cap, he, ⟨_, hW.keep hk (fun _ _ h => h)⟩, Nat.le_refl _, hk⟩)
      (fun W hN => ?_) (fun wE hN old => ⟨hN, fun p hp => ⟨old _ _ (h.held p hp).1, (h.held p hp).2⟩, h.valid, fun f t i hr => (h.rows f t i hr).mono (fun x c _ hx => old x c hx), h.aq, h.ar, h.sum⟩)
    by_cases h0 : fr = 0
    · subst h0
      exact (cut_zero _ W).mono fun e w' ⟨he, hw⟩ => ⟨he, hw ▸ hN, hw ▸ Keep.refl _ _⟩
    · exact (cut_none L q fr W hN h0 hu hd).mono fun e w' ⟨he, hk⟩ => ⟨he, hN.keep hk (fun _ _ h => h), hk.mono (fun _ h => h.elim)⟩

end Go.Proofs.Ytgphlopbbmjdhaa
