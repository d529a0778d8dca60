/- 'Send', 'Take' and 'Cut' of the document's net. -/
import Derived.Test.YtgphlopbbmjdhaaRef
import Derived.Test.YtgphlopbbmjdhaaRefRow
import Derived.Deep.AppendLies
namespace Go.Proofs.Ytgphlopbbmjdhaa
open Go.RowKit Go.Conc
set_option linter.unusedVariables false
set_option linter.unusedSimpArgs false

theorem info77 : (Try.prog.info? 77).map (fun i => (i.zero, i.size, i.bytes)) = some (some (.agg #[.int .i64 0, .int .i64 0, .int .i64 0, .int .i64 0, .int .i64 0, .int .i64 0, .bool false, .int .u64 0, .slice none 0 0, .slice none 0 0, .string ByteArray.empty]), 11, 128) := by kernel_rfl

theorem RefAt.src {w : World} {base : Nat} {a : Option Addr} {n cap : Nat} {zs : List It} (h : RefAt w base a n cap zs) : Src w a n cap 11 (itcells zs) := owns_src h.row (itcells_ones _)

/-- Three blocks that a function has made for itself. -/
structure Three (w : World) (b : Nat) (ts ms rs : List Value) : Prop where
  t : Blk w b 54 ts
  m : Blk w (b + 1) 33 ms
  r : Blk w (b + 2) 54 rs

theorem Three.keep {w w' : World} {b : Nat} {ts ms rs : List Value} (h : Three w b ts ms rs) (k : Keep (fun _ => False) w w') : Three w' b ts ms rs := ⟨h.t.keep k (fun h => h), h.m.keep k (fun h => h), h.r.keep k (fun h => h)⟩

theorem Three.grown {w w' : World} {b base n : Nat} {ts ms rs xs : List Value} {v : Value} (h : Three w b ts ms rs) (ho : w.ownsRow base 77 11 v n xs) (k : Keep (fun j => v.ownBlock = some j) w w') : Three w' b ts ms rs :=
  ⟨h.t.keep k (fun e => owns_ne ho h.t (by decide) e rfl), h.m.keep k (fun e => owns_ne ho h.m (by decide) e rfl), h.r.keep k (fun e => owns_ne ho h.r (by decide) e rfl)⟩

theorem Three.new (w : World) (ts ms rs : List Value) : Three (((w.alloc (.cells ts.toArray 54)).alloc (.cells ms.toArray 33)).alloc (.cells rs.toArray 54)) w.heap.size ts ms rs := by
  have h1 := Blk.new w 54 ts
  have h2 := Blk.new (w.alloc (.cells ts.toArray 54)) 33 ms
  have h3 := Blk.new ((w.alloc (.cells ts.toArray 54)).alloc (.cells ms.toArray 33)) 54 rs
  have s2 : (w.alloc (.cells ts.toArray 54)).heap.size = w.heap.size + 1 := by simp
  have s3 : ((w.alloc (.cells ts.toArray 54)).alloc (.cells ms.toArray 33)).heap.size = w.heap.size + 2 := by simp
  rw [s2] at h2
  rw [s3] at h3
  refine ⟨(h1.keep ((Keep.refl (fun _ => False) _).alloc _) (fun h => h)).keep ((Keep.refl (fun _ => False) _).alloc _) (fun h => h), h2.keep ((Keep.refl (fun _ => False) _).alloc _) (fun h => h), h3⟩

set_option maxHeartbeats 2000000 in
set_option maxRecDepth 100000 in
theorem refSend_none (n : Nat) (a : Option Addr) (len cap : Nat) (f t : Int) (m : Qm) (w : World) (hr : rowIx n f t = none) :
    Calls Try.prog 27 #[.agg #[.int .i64 n, .slice a len cap], .int .i64 f, .int .i64 t, .agg #[.int .i64 m.kind, .int .i64 m.txn, .int .i64 m.page, .int .i64 m.dst, .bool m.fast, .int .u64 m.lsn, .slice m.wa m.wl m.wc, .slice m.pa m.pl m.pc, .string m.body]] w fun e w' =>
      e = .returned (.tuple #[.agg #[.int .i64 n, .slice a len cap], .int .i64 1]) ∧ Keep (fun _ => False) w w' := by
  have HX := Lib.hid hr
  clear hr
  have K0 : Hid (Keep (fun _ => False) w (((w.alloc (.cells #[.int .i64 n, .slice a len cap] 54)).alloc (.cells #[.int .i64 m.kind, .int .i64 m.txn, .int .i64 m.page, .int .i64 m.dst, .bool m.fast, .int .u64 m.lsn, .slice m.wa m.wl m.wc, .slice m.pa m.pl m.pc, .string m.body] 33)).alloc (.cells #[.int .i64 0, .slice none 0 0] 54))) := (((Keep.refl _ _).alloc _).alloc _).alloc _
  have B0 : Hid (Three (((w.alloc (.cells #[.int .i64 n, .slice a len cap] 54)).alloc (.cells #[.int .i64 m.kind, .int .i64 m.txn, .int .i64 m.page, .int .i64 m.dst, .bool m.fast, .int .u64 m.lsn, .slice m.wa m.wl m.wc, .slice m.pa m.pl m.pc, .string m.body] 33)).alloc (.cells #[.int .i64 0, .slice none 0 0] 54)) w.heap.size [.int .i64 n, .slice a len cap] [.int .i64 m.kind, .int .i64 m.txn, .int .i64 m.page, .int .i64 m.dst, .bool m.fast, .int .u64 m.lsn, .slice m.wa m.wl m.wc, .slice m.pa m.pl m.pc, .string m.body] [.int .i64 0, .slice none 0 0]) := Three.new w [.int .i64 n, .slice a len cap] [.int .i64 m.kind, .int .i64 m.txn, .int .i64 m.page, .int .i64 m.dst, .bool m.fast, .int .u64 m.lsn, .slice m.wa m.wl m.wc, .slice m.pa m.pl m.pc, .string m.body] [.int .i64 0, .slice none 0 0]
  go_enter Try.func27, Try.ntmps27
  go_wp2_with fail
  refine (refRow_any n a len cap f t _).mono ?_
  rintro e w1 ⟨rfl, hk1⟩
  rw [HX.out]
  have K1 := Lib.hid (K0.out.none_trans hk1)
  have B1 := Lib.hid (B0.out.keep hk1)
  clear hk1 K0 B0
  have t0 := B1.out.t.at (i := 0) rfl
  have t1 := B1.out.t.at (i := 1) rfl
  have r0 := B1.out.r.at (i := 0) rfl
  have r1 := B1.out.r.at (i := 1) rfl
  have fr := B1.out.r.free
  go_wp2_with fail
  have BR := (B1.out.r.set 0 (.int .i64 n)).set 1 (.slice a len cap)
  have q0 := BR.at (i := 0) rfl
  have q1 := BR.at (i := 1) rfl
  have KE : ∀ (W : World) (o : Nat) (u : Value), Keep (fun k => k = w.heap.size + 2) W (W.setCell ⟨w.heap.size + 2, o, none⟩ u) := fun W o u => Keep.setCell (Keep.refl (fun k => k = w.heap.size + 2) W) (p := ⟨w.heap.size + 2, o, none⟩) (.inl rfl) u
  refine bodyPost_ret (v := .tuple #[.agg #[.int .i64 n, .slice a len cap], .int .i64 1]) (by simp [results, Try.results27, go_sem, q0, q1]) rfl ⟨rfl, (K1.out.trans (KE _ 0 _) (fun _ e => .inr (by omega))).trans (KE _ 1 _) (fun _ e => .inr (by omega))⟩

set_option maxHeartbeats 2000000 in
set_option maxRecDepth 100000 in
theorem refSend_yes (n : Nat) (a : Option Addr) (len cap base : Nat) (zs : List It) (f t : Int) (m : Qm) (i : Nat) (w : World) (h : RefAt w base a len cap zs) (hlen : len ≤ 1000000) (hr : rowIx n f t = some i) (hroom : (sel f t zs).length < 256) :
    Calls Try.prog 27 #[.agg #[.int .i64 n, .slice a len cap], .int .i64 f, .int .i64 t, .agg #[.int .i64 m.kind, .int .i64 m.txn, .int .i64 m.page, .int .i64 m.dst, .bool m.fast, .int .u64 m.lsn, .slice m.wa m.wl m.wc, .slice m.pa m.pl m.pc, .string m.body]] w fun e w' =>
      ∃ a' cap', e = .returned (.tuple #[.agg #[.int .i64 n, .slice a' (len + 1) cap'], .int .i64 0]) ∧ RefAt w' w.heap.size a' (len + 1) cap' (zs ++ [⟨f, t, m⟩]) ∧ Keep (fun _ => False) w w' := by
  obtain ⟨i0, hi0, hz0, hz1, hz2⟩ := info_parts info77
  have HR := Lib.hid h
  have HL := Lib.hid h.len
  have HX := Lib.hid hr
  have HQ := Lib.hid hroom
  clear h hr hroom
  have K0 : Hid (Keep (fun _ => False) w (((w.alloc (.cells #[.int .i64 n, .slice a len cap] 54)).alloc (.cells #[.int .i64 m.kind, .int .i64 m.txn, .int .i64 m.page, .int .i64 m.dst, .bool m.fast, .int .u64 m.lsn, .slice m.wa m.wl m.wc, .slice m.pa m.pl m.pc, .string m.body] 33)).alloc (.cells #[.int .i64 0, .slice none 0 0] 54))) := (((Keep.refl _ _).alloc _).alloc _).alloc _
  have B0 : Hid (Three (((w.alloc (.cells #[.int .i64 n, .slice a len cap] 54)).alloc (.cells #[.int .i64 m.kind, .int .i64 m.txn, .int .i64 m.page, .int .i64 m.dst, .bool m.fast, .int .u64 m.lsn, .slice m.wa m.wl m.wc, .slice m.pa m.pl m.pc, .string m.body] 33)).alloc (.cells #[.int .i64 0, .slice none 0 0] 54)) w.heap.size [.int .i64 n, .slice a len cap] [.int .i64 m.kind, .int .i64 m.txn, .int .i64 m.page, .int .i64 m.dst, .bool m.fast, .int .u64 m.lsn, .slice m.wa m.wl m.wc, .slice m.pa m.pl m.pc, .string m.body] [.int .i64 0, .slice none 0 0]) := Three.new w [.int .i64 n, .slice a len cap] [.int .i64 m.kind, .int .i64 m.txn, .int .i64 m.page, .int .i64 m.dst, .bool m.fast, .int .u64 m.lsn, .slice m.wa m.wl m.wc, .slice m.pa m.pl m.pc, .string m.body] [.int .i64 0, .slice none 0 0]
  go_enter Try.func27, Try.ntmps27
  go_wp2_with fail
  refine (refRow_any n a len cap f t _).mono ?_
  rintro e w1 ⟨rfl, hk1⟩
  rw [HX.out]
  have K1 := Lib.hid (K0.out.none_trans hk1)
  have B1 := Lib.hid (B0.out.keep hk1)
  clear hk1 K0 B0
  have t0 := B1.out.t.at (i := 0) rfl
  have t1 := B1.out.t.at (i := 1) rfl
  go_wp2_with fail
  refine (refPeek_any n a len cap base zs f t _ (HR.out.keep K1.out (fun _ _ h => h)) hlen).mono ?_
  rintro e w2 ⟨pa, pcap, rfl, _, hk2⟩
  have K2 := Lib.hid (K1.out.none_trans hk2)
  have B2 := Lib.hid (B1.out.keep hk2)
  have hq : (((sel f t zs).length : Nat) : Int) < 256 := by have := HQ.out; omega
  clear hk2 t0 t1 K1 B1
  have t0 := B2.out.t.at (i := 0) rfl
  have t1 := B2.out.t.at (i := 1) rfl
  have SZ2 : Hid (w.heap.size ≤ w2.heap.size) := K2.out.size
  go_wp2_with (at_builtin; refine wpList_append_src rfl _ _ 52 rfl w.heap.size 77 i0 (.agg #[.int .i64 0, .int .i64 0, .int .i64 0, .int .i64 0, .int .i64 0, .int .i64 0, .bool false, .int .u64 0, .slice none 0 0, .slice none 0 0, .string ByteArray.empty]) 11 128 Try.underlying52 hi0 hz0 hz1 hz2 rfl (by decide) (.slice none 0 0) 0 [] rfl (World.ownsRow_nil _ _ _ _) a len cap (itcells zs) rfl ?_ (by unfold maxLen; omega) (by omega) SZ2.out ?_)
  · exact (HR.out.keep K2.out (fun _ _ h => h)).src
  intro sw w3 hown hgrow
  obtain ⟨a1, c1, rfl⟩ := owns_shape hown
  have KG : Keep (fun _ => False) w2 w3 := (Keep.refl _ _).grown hgrow (fun k hk => by simp [Value.ownBlock] at hk)
  have K3 := Lib.hid (K2.out.none_trans KG)
  have B3 := Lib.hid (B2.out.keep KG)
  have O3 := Lib.hid hown
  clear hown hgrow KG t0 t1 K2 B2 SZ2
  have t0 := B3.out.t.at (i := 0) rfl
  have m0 := B3.out.m.at (i := 0) rfl
  have m1 := B3.out.m.at (i := 1) rfl
  have m2 := B3.out.m.at (i := 2) rfl
  have m3 := B3.out.m.at (i := 3) rfl
  have m4 := B3.out.m.at (i := 4) rfl
  have m5 := B3.out.m.at (i := 5) rfl
  have m6 := B3.out.m.at (i := 6) rfl
  have m7 := B3.out.m.at (i := 7) rfl
  have m8 := B3.out.m.at (i := 8) rfl
  have SZ3 : Hid (w.heap.size ≤ w3.heap.size) := K3.out.size
  have ne1 : w.heap.size + 1 + 1 ≠ w.heap.size := by omega
  have ne2 : w.heap.size ≠ w.heap.size + 1 + 1 := by omega
  go_wp2_with fail
  go_region_held3 (fun w' => w'.cell? ⟨w.heap.size, 0, none⟩ = some (.int .i64 n) ∧ w'.cell? ⟨w.heap.size + 1, 0, none⟩ = some (.int .i64 m.kind) ∧ w'.cell? ⟨w.heap.size + 1, 1, none⟩ = some (.int .i64 m.txn) ∧ w'.cell? ⟨w.heap.size + 1, 2, none⟩ = some (.int .i64 m.page) ∧ w'.cell? ⟨w.heap.size + 1, 3, none⟩ = some (.int .i64 m.dst) ∧ w'.cell? ⟨w.heap.size + 1, 4, none⟩ = some (.bool m.fast) ∧ w'.cell? ⟨w.heap.size + 1, 5, none⟩ = some (.int .u64 m.lsn) ∧ w'.cell? ⟨w.heap.size + 1, 6, none⟩ = some (.slice m.wa m.wl m.wc) ∧ w'.cell? ⟨w.heap.size + 1, 7, none⟩ = some (.slice m.pa m.pl m.pc) ∧ w'.cell? ⟨w.heap.size + 1, 8, none⟩ = some (.string m.body))
    (first | go_keep | (trace_state; fail))
    ((refine step_append_lies _ rfl _ _ 52 rfl w.heap.size 77 i0 (.agg #[.int .i64 0, .int .i64 0, .int .i64 0, .int .i64 0, .int .i64 0, .int .i64 0, .bool false, .int .u64 0, .slice none 0 0, .slice none 0 0, .string ByteArray.empty]) 11 128 Try.underlying52 hi0 hz0 hz1 hz2 rfl (by decide) (.slice a1 len c1) len (itcells zs) rfl ((O3.out.alloc _).drew) ⟨w3.heap.size, 0, none⟩ 1 1 (It.cells ⟨f, t, m⟩) rfl rfl (World.news_of_block (cs := (It.cells ⟨f, t, m⟩).toArray) (t := 77) (fr := (0, 0)) (heap_alloc_new w3 _)) (It.one ⟨f, t, m⟩) (by decide) (by unfold maxLen; omega) (by omega) ?_ (w3.heap.size + 1) ?_ ?_
      · have := SZ3.out; simp; omega
      · simp
      intro g cp w4 hown hgrow hat hlt
      have K4 : Keep (fun j => (Value.slice a1 len c1).ownBlock = some j) w3 w4 := (((Keep.refl _ w3).alloc _).drew).grown hgrow (fun j hj => .inl hj)
      have B4 := B3.out.grown O3.out K4
      have t0 := B4.t.at (i := 0) rfl
      have m0 := B4.m.at (i := 0) rfl
      have m1 := B4.m.at (i := 1) rfl
      have m2 := B4.m.at (i := 2) rfl
      have m3 := B4.m.at (i := 3) rfl
      have m4 := B4.m.at (i := 4) rfl
      have m5 := B4.m.at (i := 5) rfl
      have m6 := B4.m.at (i := 6) rfl
      have m7 := B4.m.at (i := 7) rfl
      have m8 := B4.m.at (i := 8) rfl
      have r0 := B4.r.at (i := 0) rfl
      have r1 := B4.r.at (i := 1) rfl
      have fr := B4.r.free))
  go_wp2_with fail
  have BR := (B4.r.set 0 (.int .i64 n)).set 1 (.slice (some ⟨g, 0, none⟩) (len + 1) cp)
  have q0 := BR.at (i := 0) rfl
  have q1 := BR.at (i := 1) rfl
  have KE : ∀ (W : World) (o : Nat) (u : Value), Keep (fun k => k = w.heap.size + 2) W (W.setCell ⟨w.heap.size + 2, o, none⟩ u) := fun W o u => Keep.setCell (Keep.refl (fun k => k = w.heap.size + 2) W) (p := ⟨w.heap.size + 2, o, none⟩) (.inl rfl) u
  have hne : ∀ j, (Value.slice (some ⟨g, 0, none⟩) (len + 1) cp).ownBlock = some j → ¬ (j = w.heap.size + 2) := fun j hj => owns_ne hown B4.r (by decide) hj
  have K5 := K3.out.trans K4 (fun j e => .inr (O3.out.lt j e).1)
  refine bodyPost_ret (v := .tuple #[.agg #[.int .i64 n, .slice (some ⟨g, 0, none⟩) (len + 1) cp], .int .i64 0]) (by simp [results, Try.results27, go_sem, q0, q1]) rfl ⟨_, _, rfl, ⟨by simp [HL.out], ?_⟩, (K5.trans (KE _ 0 _) (fun _ e => .inr (by omega))).trans (KE _ 1 _) (fun _ e => .inr (by omega))⟩
  rw [itcells_append, itcells_one]
  exact owns_keep (owns_keep hown (KE _ 0 _) hne) (KE _ 1 _) hne

set_option maxHeartbeats 2000000 in
set_option maxRecDepth 100000 in
theorem refSend_full (n : Nat) (a : Option Addr) (len cap base : Nat) (zs : List It) (f t : Int) (m : Qm) (i : Nat) (w : World) (h : RefAt w base a len cap zs) (hlen : len ≤ 1000000) (hr : rowIx n f t = some i) (hfull : 256 ≤ (sel f t zs).length) :
    Calls Try.prog 27 #[.agg #[.int .i64 n, .slice a len cap], .int .i64 f, .int .i64 t, .agg #[.int .i64 m.kind, .int .i64 m.txn, .int .i64 m.page, .int .i64 m.dst, .bool m.fast, .int .u64 m.lsn, .slice m.wa m.wl m.wc, .slice m.pa m.pl m.pc, .string m.body]] w fun e w' =>
      e = .returned (.tuple #[.agg #[.int .i64 n, .slice a len cap], .int .i64 7]) ∧ Keep (fun _ => False) w w' := by
  have HR := Lib.hid h
  have HX := Lib.hid hr
  have HQ := Lib.hid hfull
  clear h hr hfull
  have K0 : Hid (Keep (fun _ => False) w (((w.alloc (.cells #[.int .i64 n, .slice a len cap] 54)).alloc (.cells #[.int .i64 m.kind, .int .i64 m.txn, .int .i64 m.page, .int .i64 m.dst, .bool m.fast, .int .u64 m.lsn, .slice m.wa m.wl m.wc, .slice m.pa m.pl m.pc, .string m.body] 33)).alloc (.cells #[.int .i64 0, .slice none 0 0] 54))) := (((Keep.refl _ _).alloc _).alloc _).alloc _
  have B0 : Hid (Three (((w.alloc (.cells #[.int .i64 n, .slice a len cap] 54)).alloc (.cells #[.int .i64 m.kind, .int .i64 m.txn, .int .i64 m.page, .int .i64 m.dst, .bool m.fast, .int .u64 m.lsn, .slice m.wa m.wl m.wc, .slice m.pa m.pl m.pc, .string m.body] 33)).alloc (.cells #[.int .i64 0, .slice none 0 0] 54)) w.heap.size [.int .i64 n, .slice a len cap] [.int .i64 m.kind, .int .i64 m.txn, .int .i64 m.page, .int .i64 m.dst, .bool m.fast, .int .u64 m.lsn, .slice m.wa m.wl m.wc, .slice m.pa m.pl m.pc, .string m.body] [.int .i64 0, .slice none 0 0]) := Three.new w [.int .i64 n, .slice a len cap] [.int .i64 m.kind, .int .i64 m.txn, .int .i64 m.page, .int .i64 m.dst, .bool m.fast, .int .u64 m.lsn, .slice m.wa m.wl m.wc, .slice m.pa m.pl m.pc, .string m.body] [.int .i64 0, .slice none 0 0]
  go_enter Try.func27, Try.ntmps27
  go_wp2_with fail
  refine (refRow_any n a len cap f t _).mono ?_
  rintro e w1 ⟨rfl, hk1⟩
  rw [HX.out]
  have K1 := Lib.hid (K0.out.none_trans hk1)
  have B1 := Lib.hid (B0.out.keep hk1)
  clear hk1 K0 B0
  have t0 := B1.out.t.at (i := 0) rfl
  have t1 := B1.out.t.at (i := 1) rfl
  go_wp2_with fail
  refine (refPeek_any n a len cap base zs f t _ (HR.out.keep K1.out (fun _ _ h => h)) hlen).mono ?_
  rintro e w2 ⟨pa, pcap, rfl, _, hk2⟩
  have K2 := Lib.hid (K1.out.none_trans hk2)
  have B2 := Lib.hid (B1.out.keep hk2)
  have hq : (256 : Int) ≤ (((sel f t zs).length : Nat) : Int) := by have := HQ.out; omega
  clear hk2 t0 t1 K1 B1
  have t0 := B2.out.t.at (i := 0) rfl
  have t1 := B2.out.t.at (i := 1) rfl
  have r0 := B2.out.r.at (i := 0) rfl
  have r1 := B2.out.r.at (i := 1) rfl
  have fr := B2.out.r.free
  go_wp2_with fail
  have BR := (B2.out.r.set 0 (.int .i64 n)).set 1 (.slice a len cap)
  have q0 := BR.at (i := 0) rfl
  have q1 := BR.at (i := 1) rfl
  have KE : ∀ (W : World) (o : Nat) (u : Value), Keep (fun k => k = w.heap.size + 2) W (W.setCell ⟨w.heap.size + 2, o, none⟩ u) := fun W o u => Keep.setCell (Keep.refl (fun k => k = w.heap.size + 2) W) (p := ⟨w.heap.size + 2, o, none⟩) (.inl rfl) u
  refine bodyPost_ret (v := .tuple #[.agg #[.int .i64 n, .slice a len cap], .int .i64 7]) (by simp [results, Try.results27, go_sem, q0, q1]) rfl ⟨rfl, (K2.out.trans (KE _ 0 _) (fun _ e => .inr (by omega))).trans (KE _ 1 _) (fun _ e => .inr (by omega))⟩

end Go.Proofs.Ytgphlopbbmjdhaa
