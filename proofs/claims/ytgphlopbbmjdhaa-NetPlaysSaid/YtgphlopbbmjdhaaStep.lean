/- 'step' of NetPlays: so many sends. -/
import Derived.Test.YtgphlopbbmjdhaaBetween
namespace Go.Proofs.Ytgphlopbbmjdhaa
open Go.RowKit Go.Conc
set_option linter.unusedVariables false
set_option linter.unusedSimpArgs false

set_option maxHeartbeats 2000000 in
set_option maxRecDepth 100000 in
theorem step_send (w0 : World) (L : Lay) (q : Nat → List Qm) (ps : List Pc) (base' : Nat) (a : Option Addr) (len cap : Nat) (o : OpV) (w : World) (h : State w w0.heap.size L q ps) (hR : RefAt w base' a len cap (ps.map Prod.fst)) (hlow : Below w0.heap.size w0 w) (hab : ∀ b, L.blk b → w0.heap.size ≤ b) (hk : o.kind = 0 ∨ o.kind = 3) (hm : MsgOk w0 o.m) (hf : o.m.few = true) (hlen : len ≤ 100000) :
    Calls Try.prog 23 #[.pointer (some ⟨L.b, 0, none⟩), .agg #[.int .i64 L.n, .slice a len cap], .agg #[.int .i64 o.kind, .int .i64 o.frm, .int .i64 o.dest, .int .i64 o.n, .int .i64 o.m.kind, .int .i64 o.m.txn, .int .i64 o.m.page, .int .i64 o.m.dst, .bool o.m.fast, .int .u64 o.m.lsn, .slice o.m.wa o.m.wl o.m.wc, .slice o.m.pa o.m.pl o.m.pc, .string o.m.body]] w fun e w' =>
      ∃ q' ps' a' len' cap', e = .returned (.tuple #[.agg #[.int .i64 L.n, .slice a' len' cap'], .bool true]) ∧ State w' w0.heap.size L q' ps' ∧ (∃ b, RefAt w' b a' len' cap' (ps'.map Prod.fst)) ∧ len' ≤ len + 260 ∧ Below w0.heap.size w0 w' ∧ (∀ b vs, Blk w b 54 vs → Blk w' b 54 vs) := by
  obtain ⟨kd, fr, de, nn, ms⟩ := o
  simp only at hk hm hf ⊢
  have hW : Hid (Between w0 w w.heap.size L ⟨kd, fr, de, nn, ms⟩ len (((w.alloc (.cells #[.int .i64 L.n, .slice a len cap] 54)).alloc (.cells #[.int .i64 kd, .int .i64 fr, .int .i64 de, .int .i64 nn, .int .i64 ms.kind, .int .i64 ms.txn, .int .i64 ms.page, .int .i64 ms.dst, .bool ms.fast, .int .u64 ms.lsn, .slice ms.wa ms.wl ms.wc, .slice ms.pa ms.pl ms.pc, .string ms.body] 41)).alloc (.cells #[.int .i64 0, .slice none 0 0] 54)) 0 q ps a len cap base') := by
    have K : Keep (fun _ => False) w (((w.alloc (.cells #[.int .i64 L.n, .slice a len cap] 54)).alloc (.cells #[.int .i64 kd, .int .i64 fr, .int .i64 de, .int .i64 nn, .int .i64 ms.kind, .int .i64 ms.txn, .int .i64 ms.page, .int .i64 ms.dst, .bool ms.fast, .int .u64 ms.lsn, .slice ms.wa ms.wl ms.wc, .slice ms.pa ms.pl ms.pc, .string ms.body] 41)).alloc (.cells #[.int .i64 0, .slice none 0 0] 54)) := (((Keep.refl _ _).alloc _).alloc _).alloc _
    exact ⟨h.keep K (fun _ _ h => h), hR.keep K (fun _ _ h => h), by omega, Own3.new w [.int .i64 L.n, .slice a len cap] (OpV.cells ⟨kd, fr, de, nn, ms⟩) [.int .i64 0, .slice none 0 0], keep0_below hlow K, fun b hb => ⟨hab b hb, h.net.blk_lt hb⟩, hlow.size, Nat.le_refl _, fun b vs hb => hb.keep K (fun h => h)⟩
  have HM := Lib.hid hm
  have HF := Lib.hid hf
  clear h hR hm hf hlow hab
  rcases hk with rfl | rfl
  · go_enter Try.func23, Try.ntmps23
    go_wp2_with fail
    generalize (((w.alloc (.cells #[.int .i64 L.n, .slice a len cap] 54)).alloc (.cells #[.int .i64 0, .int .i64 fr, .int .i64 de, .int .i64 nn, .int .i64 ms.kind, .int .i64 ms.txn, .int .i64 ms.page, .int .i64 ms.dst, .bool ms.fast, .int .u64 ms.lsn, .slice ms.wa ms.wl ms.wc, .slice ms.pa ms.pl ms.pc, .string ms.body] 41)).alloc (.cells #[.int .i64 0, .slice none 0 0] 54)) = w1 at hW ⊢
    generalize hs : w.heap.size = s at hW ⊢
    go_loopw [9] (fun i wr => ∃ (k : Nat) (q : Nat → List Qm) (ps : List Pc) (a : Option Addr) (len' cap base' : Nat), k ≤ 260 ∧ i = .int .i64 k ∧ Between w0 w s L ⟨0, fr, de, nn, ms⟩ len wr k q ps a len' cap base') (fun i _ => 261 - (intOf i).toNat)
    case atStart => exact ⟨0, q, ps, a, len, cap, base', Nat.zero_le _, rfl, hW.out⟩
    case round =>
      clear hW
      obtain ⟨k, q, ps, a', len', cap', base2, hk, rfl, hBt⟩ := hrel
      have BT := Lib.hid hBt
      have t0 := hBt.own.t.at (i := 0) rfl
      have t1 := hBt.own.t.at (i := 1) rfl
      have o1 := hBt.own.o.at (i := 1) rfl
      have o2 := hBt.own.o.at (i := 2) rfl
      have o4 := hBt.own.o.at (i := 4) rfl
      have o5 := hBt.own.o.at (i := 5) rfl
      have o6 := hBt.own.o.at (i := 6) rfl
      have o7 := hBt.own.o.at (i := 7) rfl
      have o8 := hBt.own.o.at (i := 8) rfl
      have o9 := hBt.own.o.at (i := 9) rfl
      have o10 := hBt.own.o.at (i := 10) rfl
      have o11 := hBt.own.o.at (i := 11) rfl
      have o12 := hBt.own.o.at (i := 12) rfl
      clear hBt
      obtain ⟨N, hN⟩ : ∃ N : Int, N = 1 := ⟨_, rfl⟩
      rcases (by omega : ((k : Int) < 1 ∧ k < 260) ∨ ((k : Int) < 1 ∧ 260 ≤ k) ∨ 1 ≤ (k : Int)) with ⟨hlt, hlt1⟩ | ⟨hlt, hge⟩ | hge
      · obtain ⟨wcs, pcs, hr⟩ := (HM.out.below BT.out.low).reads
        have FC := Lib.hid (few_of hr HF.out)
        have RD := Lib.hid hr
        clear hr
        go_wp2_with fail
        refine (lawCopied_any ms _ _ RD.out FC.out).mono ?_
        rintro e w2 ⟨⟨yk, yt, yp, yd, yf, yl, ywa, ywl, ywc, ypa, ypl, ypc, yb⟩, rfl, hk2, hy⟩
        have K2 := Lib.hid hk2
        have HY := Lib.hid hy
        have O2 := Lib.hid (BT.out.own.keep hk2 (fun _ _ _ h => h))
        clear hk2 hy t0 t1 o1 o2 o4 o5 o6 o7 o8 o9 o10 o11 o12 hN
        go_wp2_with fail
        have KA : Keep (fun _ => False) w2 (w2.alloc (.cells #[.int .i64 yk, .int .i64 k, .int .i64 yp, .int .i64 yd, .bool yf, .int .u64 yl, .slice ywa ywl ywc, .slice ypa ypl ypc, .string yb] 33)) := (Keep.refl _ _).alloc _
        have K3 := Lib.hid (K2.out.none_trans KA)
        have O3 := Lib.hid (O2.out.keep KA (fun _ _ _ h => h))
        have BM : Hid (Blk (w2.alloc (.cells #[.int .i64 yk, .int .i64 k, .int .i64 yp, .int .i64 yd, .bool yf, .int .u64 yl, .slice ywa ywl ywc, .slice ypa ypl ypc, .string yb] 33)) w2.heap.size 33 [.int .i64 yk, .int .i64 k, .int .i64 yp, .int .i64 yd, .bool yf, .int .u64 yl, .slice ywa ywl ywc, .slice ypa ypl ypc, .string yb]) := heap_alloc_new _ _
        have HY3 : Hid (Holds (w2.alloc (.cells #[.int .i64 yk, .int .i64 k, .int .i64 yp, .int .i64 yd, .bool yf, .int .u64 yl, .slice ywa ywl ywc, .slice ypa ypl ypc, .string yb] 33)) wr.heap.size ⟨yk, k, yp, yd, yf, yl, ywa, ywl, ywc, ypa, ypl, ypc, yb⟩ ⟨ms.kind, k, ms.page, ms.dst, ms.fast, ms.lsn, wcs, pcs, ms.body⟩) := by
          have h1 := HY.out.keep KA (fun _ _ h => h)
          exact ⟨⟨h1.plain.kind, rfl, h1.plain.page, h1.plain.dst, h1.plain.fast, h1.plain.lsn, h1.plain.body⟩, h1.ws, h1.ps⟩
        have FC3 : Hid (Cont.few ⟨ms.kind, k, ms.page, ms.dst, ms.fast, ms.lsn, wcs, pcs, ms.body⟩) := FC.out
        have MBS : Hid (wr.heap.size ≤ w2.heap.size ∧ w2.heap.size < (w2.alloc (.cells #[.int .i64 yk, .int .i64 k, .int .i64 yp, .int .i64 yd, .bool yf, .int .u64 yl, .slice ywa ywl ywc, .slice ypa ypl ypc, .string yb] 33)).heap.size) := ⟨K2.out.size, by simp⟩
        have RF3 := Lib.hid (BT.out.ref.keep K3.out (fun _ _ h => h))
        have ML3 := Lib.hid BT.out.many
        clear KA K2 O2 HY FC RD
        generalize w2.alloc (.cells #[.int .i64 yk, .int .i64 k, .int .i64 yp, .int .i64 yd, .bool yf, .int .u64 yl, .slice ywa ywl ywc, .slice ypa ypl ypc, .string yb] 33) = w3 at K3 O3 BM HY3 MBS RF3 ⊢
        generalize w2.heap.size = mb at BM MBS ⊢
        have t0 := O3.out.t.at (i := 0) rfl
        have t1 := O3.out.t.at (i := 1) rfl
        have o1 := O3.out.o.at (i := 1) rfl
        have o2 := O3.out.o.at (i := 2) rfl
        have m0 := BM.out.at (i := 0) rfl
        have m1 := BM.out.at (i := 1) rfl
        have m2 := BM.out.at (i := 2) rfl
        have m3 := BM.out.at (i := 3) rfl
        have m4 := BM.out.at (i := 4) rfl
        have m5 := BM.out.at (i := 5) rfl
        have m6 := BM.out.at (i := 6) rfl
        have m7 := BM.out.at (i := 7) rfl
        have m8 := BM.out.at (i := 8) rfl
        go_upto_region 12 with fail
        go_cut [11, 12] (fun xp f wx => ∃ (xb : Nat) (a2 : Option Addr) (len2 cap2 : Nat) (r : Int) (z : Qm), xp = .pointer (some ⟨xb, 0, none⟩) ∧ f = .int .i64 r ∧ Keep (fun _ => False) w3 wx ∧ Blk wx xb 54 [.int .i64 L.n, .slice a2 len2 cap2] ∧ w3.heap.size ≤ xb ∧ Holds wx w3.heap.size z ⟨ms.kind, k, ms.page, ms.dst, ms.fast, ms.lsn, wcs, pcs, ms.body⟩ ∧ SendRes wx L.n (ps.map Prod.fst) fr de z a' len' cap' a2 len2 cap2 r)
        case first =>
          go_region_held3 (fun w' => w'.cell? ⟨s, 0, none⟩ = some (.int .i64 L.n) ∧ w'.cell? ⟨s, 1, none⟩ = some (.slice a' len' cap') ∧ w'.cell? ⟨s + 1, 1, none⟩ = some (.int .i64 fr) ∧ w'.cell? ⟨s + 1, 2, none⟩ = some (.int .i64 de) ∧ w'.cell? ⟨mb, 0, none⟩ = some (.int .i64 yk) ∧ w'.cell? ⟨mb, 1, none⟩ = some (.int .i64 k) ∧ w'.cell? ⟨mb, 2, none⟩ = some (.int .i64 yp) ∧ w'.cell? ⟨mb, 3, none⟩ = some (.int .i64 yd) ∧ w'.cell? ⟨mb, 4, none⟩ = some (.bool yf) ∧ w'.cell? ⟨mb, 5, none⟩ = some (.int .u64 yl) ∧ w'.cell? ⟨mb, 6, none⟩ = some (.slice ywa ywl ywc) ∧ w'.cell? ⟨mb, 7, none⟩ = some (.slice ypa ypl ypc) ∧ w'.cell? ⟨mb, 8, none⟩ = some (.string yb))
            (first
              | go_keep
              | (go_split_ands
                 refine ⟨?_, ?_, ?_, ?_, ?_, ?_, ?_, ?_, ?_, ?_, ?_, ?_, ?_⟩
                 all_goals (first | assumption | (refine Keep.got ((Keep.setCell (Keep.refl (fun b => b = w4.heap.size) w5) (p := ⟨w4.heap.size, 0, none⟩) (.inl rfl) _).setCell (p := ⟨w4.heap.size, 1, none⟩) (.inl rfl) _) ?_ (fun e => by simp only at e; omega); assumption) | (refine Keep.got ((Keep.setCell (Keep.refl (fun b => b = w3.heap.size) w5) (p := ⟨w3.heap.size, 0, none⟩) (.inl rfl) _).setCell (p := ⟨w3.heap.size, 1, none⟩) (.inl rfl) _) ?_ (fun e => by simp only at e; omega); assumption)))
              | (trace_state; fail))
            (first
              | (go_at_call 16
                 refine (lawCopied_any ⟨yk, k, yp, yd, yf, yl, ywa, ywl, ywc, ypa, ypl, ypc, yb⟩ _ _ (HY3.out.reads.keep (S := fun _ => False) ?_ (fun _ _ h => h)) FC3.out).mono ?_
                 · first | exact (Keep.refl (fun _ => False) w3).drew | exact ((Keep.refl (fun _ => False) w3).alloc _).drew
                 rintro e w4 ⟨⟨zk, zt, zp, zd, zf, zl, zwa, zwl, zwc, zpa, zpl, zpc, zb⟩, rfl, hk4, hz⟩
                 have K4 : Keep (fun _ => False) w3 w4 := by first | exact (Keep.refl (fun _ => False) w3).drew.none_trans hk4 | exact ((Keep.refl (fun _ => False) w3).alloc _).drew.none_trans hk4
                 have O4 := O3.out.keep K4 (fun _ _ _ h => h)
                 have BM4 := BM.out.keep K4 (fun h => h)
                 have u0 := O4.t.at (i := 0) rfl
                 have u1 := O4.t.at (i := 1) rfl
                 have v1 := O4.o.at (i := 1) rfl
                 have v2 := O4.o.at (i := 2) rfl
                 have p0 := BM4.at (i := 0) rfl
                 have p1 := BM4.at (i := 1) rfl
                 have p2 := BM4.at (i := 2) rfl
                 have p3 := BM4.at (i := 3) rfl
                 have p4 := BM4.at (i := 4) rfl
                 have p5 := BM4.at (i := 5) rfl
                 have p6 := BM4.at (i := 6) rfl
                 have p7 := BM4.at (i := 7) rfl
                 have p8 := BM4.at (i := 8) rfl)
              | (go_at_call 27
                 refine (refSend_any L.n a' len' cap' base2 (ps.map Prod.fst) fr de ⟨zk, zt, zp, zd, zf, zl, zwa, zwl, zwc, zpa, zpl, zpc, zb⟩ _ (RefAt.keep (S := fun _ => False) RF3.out ?_ (fun _ _ h => h)) ?_).mono ?_
                 · first | exact K4 | exact K4.alloc _
                 · have := ML3.out; omega
                 rintro e w5 ⟨a2, len2, cap2, r, rfl, hk5, hres⟩
                 have K5 : Keep (fun _ => False) w3 w5 := by first | exact K4.none_trans hk5 | exact (K4.alloc _).none_trans hk5
                 have HZ5 : Holds w5 w3.heap.size ⟨zk, zt, zp, zd, zf, zl, zwa, zwl, zwc, zpa, zpl, zpc, zb⟩ ⟨ms.kind, k, ms.page, ms.dst, ms.fast, ms.lsn, wcs, pcs, ms.body⟩ := by first | exact (hz.base (Nat.le_refl _)).keep hk5 (fun _ _ h => h) | exact ((hz.base (Nat.le_refl _)).keep ((Keep.refl (fun _ => False) _).alloc _) (fun _ _ h => h)).keep hk5 (fun _ _ h => h) | exact (hz.base (((Keep.refl (fun _ => False) w3).alloc _).drew.size)).keep hk5 (fun _ _ h => h)
                 have O5 := O3.out.keep K5 (fun _ _ _ h => h)
                 have BM5 := BM.out.keep K5 (fun h => h)
                 try (have XB : Blk w5 w4.heap.size 54 [.int .i64 0, .slice none 0 0] := (Blk.new w4 54 [.int .i64 0, .slice none 0 0]).keep hk5 (fun h => h); have x0 := XB.at (i := 0) rfl; have x1 := XB.at (i := 1) rfl; have xf := XB.free; have y1 : w4.heap.size ≠ s := (fun e => by have := O4.t.lt; omega); have y2 : w4.heap.size ≠ s + 1 := (fun e => by have := O4.o.lt; omega); have y3 : w4.heap.size ≠ mb := (fun e => by have := BM4.lt; omega))
                 try (have XA : Blk ((w3.alloc (.cells #[.int .i64 0, .slice none 0 0] 54)).drew) w3.heap.size 54 [.int .i64 0, .slice none 0 0] := Blk.new w3 54 [.int .i64 0, .slice none 0 0]; have XB : Blk w5 w3.heap.size 54 [.int .i64 0, .slice none 0 0] := (XA.keep hk4 (fun h => h)).keep hk5 (fun h => h); have x0 := XB.at (i := 0) rfl; have x1 := XB.at (i := 1) rfl; have xf := XB.free; have y1 : w3.heap.size ≠ s := (fun e => by have := O3.out.t.lt; omega); have y2 : w3.heap.size ≠ s + 1 := (fun e => by have := O3.out.o.lt; omega); have y3 : w3.heap.size ≠ mb := (fun e => by have := BM.out.lt; omega))
                 have u0 := O5.t.at (i := 0) rfl
                 have u1 := O5.t.at (i := 1) rfl
                 have v1 := O5.o.at (i := 1) rfl
                 have v2 := O5.o.at (i := 2) rfl
                 have p0 := BM5.at (i := 0) rfl
                 have p1 := BM5.at (i := 1) rfl
                 have p2 := BM5.at (i := 2) rfl
                 have p3 := BM5.at (i := 3) rfl
                 have p4 := BM5.at (i := 4) rfl
                 have p5 := BM5.at (i := 5) rfl
                 have p6 := BM5.at (i := 6) rfl
                 have p7 := BM5.at (i := 7) rfl
                 have p8 := BM5.at (i := 8) rfl))
          · go_wp2_with fail
            go_meet
            have hh := send_made K5 HZ5 hres [.int .i64 L.n, .slice a2 len2 cap2]
            exact ⟨w5.heap.size, a2, len2, cap2, r, ⟨zk, zt, zp, zd, zf, zl, zwa, zwl, zwc, zpa, zpl, zpc, zb⟩, rfl, rfl, hh.1, hh.2.1, K5.size, hh.2.2.1, hh.2.2.2⟩
          · go_wp2_with fail
            go_meet
            have hh := send_laid K5 XB K4.size HZ5 hres (.int .i64 L.n) (.slice a2 len2 cap2)
            exact ⟨w4.heap.size, a2, len2, cap2, r, ⟨zk, zt, zp, zd, zf, zl, zwa, zwl, zwc, zpa, zpl, zpc, zb⟩, rfl, rfl, hh.1, hh.2.1, K4.size, hh.2.2.1, hh.2.2.2⟩
          · go_wp2_with fail
            go_meet
            have hh := send_laid K5 XB (Nat.le_refl _) HZ5 hres (.int .i64 L.n) (.slice a2 len2 cap2)
            exact ⟨w3.heap.size, a2, len2, cap2, r, ⟨zk, zt, zp, zd, zf, zl, zwa, zwl, zwc, zpa, zpl, zpc, zb⟩, rfl, rfl, hh.1, hh.2.1, Nat.le_refl _, hh.2.2.1, hh.2.2.2⟩
        case rest =>
          obtain ⟨xb, a2, len2, cap2, r, z, rfl, rfl, hK, hX, hxb, hz, hres⟩ := hcut
          clear t0 t1 o1 o2 m0 m1 m2 m3 m4 m5 m6 m7 m8
          have KX := Lib.hid hK
          have HZ := Lib.hid hz
          have HR := Lib.hid hres
          have OX := Lib.hid (O3.out.keep hK (fun _ _ _ h => h))
          have BX := Lib.hid (BM.out.keep hK (fun h => h))
          have x0 := hX.at (i := 0) rfl
          have x1 := hX.at (i := 1) rfl
          have t0 := OX.out.t.at (i := 0) rfl
          have t1 := OX.out.t.at (i := 1) rfl
          have fs := OX.out.t.free
          obtain ⟨bt, k6⟩ := set_two OX.out.t (.int .i64 L.n) (.slice a2 len2 cap2)
          have n1 : s + 1 ≠ s := by omega
          have n2 : mb ≠ s := (fun e => by have := BT.out.own.t.lt; have := MBS.out; omega)
          have KS := Lib.hid k6
          have o1 := k6.got (OX.out.o.at (i := 1) rfl) n1
          have o2 := k6.got (OX.out.o.at (i := 2) rfl) n1
          have m0 := k6.got (BX.out.at (i := 0) rfl) n2
          have m1 := k6.got (BX.out.at (i := 1) rfl) n2
          have m2 := k6.got (BX.out.at (i := 2) rfl) n2
          have m3 := k6.got (BX.out.at (i := 3) rfl) n2
          have m4 := k6.got (BX.out.at (i := 4) rfl) n2
          have m5 := k6.got (BX.out.at (i := 5) rfl) n2
          have m6 := k6.got (BX.out.at (i := 6) rfl) n2
          have m7 := k6.got (BX.out.at (i := 7) rfl) n2
          have m8 := k6.got (BX.out.at (i := 8) rfl) n2
          clear hK hX hxb hz hres bt k6
          go_wp2_with fail
          have N6 : Hid (NetAt ((wc.setCell ⟨s, 0, none⟩ (.int .i64 L.n)).setCell ⟨s, 1, none⟩ (.slice a2 len2 cap2)) L q) := (BT.out.st.net.keep (K3.out.none_trans KX.out) (fun _ _ h => h)).keep KS.out (fun b hb e => by have := (BT.out.above _ hb).2; omega)
          have Y6 : Hid (Holds ((wc.setCell ⟨s, 0, none⟩ (.int .i64 L.n)).setCell ⟨s, 1, none⟩ (.slice a2 len2 cap2)) wr.heap.size ⟨yk, k, yp, yd, yf, yl, ywa, ywl, ywc, ypa, ypl, ypc, yb⟩ ⟨ms.kind, k, ms.page, ms.dst, ms.fast, ms.lsn, wcs, pcs, ms.body⟩) := y_there HY3.out KX.out OX.out.t (Keep.refl (fun _ => False) _) (fun _ _ h => h)
          have YL := Lib.hid (HY3.out.wl)
          rcases HR.out with ⟨hr, e1, e2, e3, e4⟩ | ⟨i, b2, hr, hq, e1, e3, hRf⟩ | ⟨i, hr, hq, e1, e2, e3, e4⟩
          · subst e1 e2 e3 e4
            refine (send_none L q fr de ⟨yk, k, yp, yd, yf, yl, ywa, ywl, ywc, ypa, ypl, ypc, yb⟩ _ _ _ _ _ _ _ N6.out hr).mono ?_
            rintro e w7 ⟨rfl, hk7⟩
            have K7 := Lib.hid hk7
            have Y7 := Lib.hid (Y6.out.keep hk7 (fun _ _ h => h))
            replace m0 := hk7.got m0 (fun h => h)
            replace m1 := hk7.got m1 (fun h => h)
            replace m2 := hk7.got m2 (fun h => h)
            replace m3 := hk7.got m3 (fun h => h)
            replace m4 := hk7.got m4 (fun h => h)
            replace m5 := hk7.got m5 (fun h => h)
            replace m6 := hk7.got m6 (fun h => h)
            replace m7 := hk7.got m7 (fun h => h)
            replace m8 := hk7.got m8 (fun h => h)
            clear hk7 hr t0 t1 fs n1 n2 o1 o2
            go_wp2_with fail
            refine (spoil_any ⟨yk, k, yp, yd, yf, yl, ywa, ywl, ywc, ypa, ypl, ypc, yb⟩ _ Y7.out.mine.1 Y7.out.mine.2 ?_ ?_).mono ?_
            · have := YL.out.1; have := FC3.out.1; simp only at *; omega
            · have := YL.out.2; have := FC3.out.2; simp only at *; omega
            rintro e w8 ⟨rfl, hk8⟩
            have BN := Lib.hid (BT.out.kept K3.out HY3.out KX.out K7.out hk8)
            clear hk8 m0 m1 m2 m3 m4 m5 m6 m7 m8
            go_wp2_with fail
            go_roundw
            case rel => exact ⟨k + 1, q, ps, _, _, _, base2, by omega, by go_num, BN.out⟩
            case measure => simp [intOf]; omega
          · subst e1
            have ci : Hid (L.c i < s) := (BT.out.above _ (.inr (.inr (.inr ⟨i, rowIx_lt hr, rfl⟩)))).2
            rw [← BT.out.st.qlen hr] at hq
            refine (send_holds L q fr de i ⟨yk, k, yp, yd, yf, yl, ywa, ywl, ywc, ypa, ypl, ypc, yb⟩ ⟨ms.kind, k, ms.page, ms.dst, ms.fast, ms.lsn, wcs, pcs, ms.body⟩ _ N6.out hr hq Y6.out.reads FC3.out).mono ?_
            rintro e w7 ⟨rfl, x, hN, hk7, hx⟩
            have K7 := Lib.hid hk7
            have Y7 := Lib.hid (Y6.out.keep_net N6.out (rowIx_lt hr) hk7)
            have mc : mb ≠ L.c i := (fun e => by have := ci.out; have := BT.out.own.t.lt; have := MBS.out; omega)
            replace m0 := hk7.got m0 mc
            replace m1 := hk7.got m1 mc
            replace m2 := hk7.got m2 mc
            replace m3 := hk7.got m3 mc
            replace m4 := hk7.got m4 mc
            replace m5 := hk7.got m5 mc
            replace m6 := hk7.got m6 mc
            replace m7 := hk7.got m7 mc
            replace m8 := hk7.got m8 mc
            have HN := Lib.hid hN
            have HX := Lib.hid (hx.base KS.out.size)
            have R := Lib.hid hr
            have RF := Lib.hid hRf
            have E3 := Lib.hid e3
            clear hk7 hr hq t0 t1 fs n1 n2 o1 o2 hN hx hRf e3 mc
            go_wp2_with fail
            refine (spoil_any ⟨yk, k, yp, yd, yf, yl, ywa, ywl, ywc, ypa, ypl, ypc, yb⟩ _ Y7.out.mine.1 Y7.out.mine.2 ?_ ?_).mono ?_
            · have := YL.out.1; have := FC3.out.1; simp only at *; omega
            · have := YL.out.2; have := FC3.out.2; simp only at *; omega
            rintro e w8 ⟨rfl, hk8⟩
            have BN := Lib.hid (BT.out.sent K3.out HY3.out KX.out HZ.out R.out RF.out E3.out HN.out K7.out HX.out FC3.out hk8)
            clear hk8 m0 m1 m2 m3 m4 m5 m6 m7 m8
            go_wp2_with fail
            go_roundw
            case rel => exact ⟨k + 1, _, _, _, _, _, _, by omega, by go_num, BN.out⟩
            case measure => simp [intOf]; omega
          · subst e1 e2 e3 e4
            have hfull := BT.out.st.net.len i (rowIx_lt hr)
            rw [← BT.out.st.qlen hr] at hq
            refine (send_full_reads L q fr de i ⟨yk, k, yp, yd, yf, yl, ywa, ywl, ywc, ypa, ypl, ypc, yb⟩ ⟨ms.kind, k, ms.page, ms.dst, ms.fast, ms.lsn, wcs, pcs, ms.body⟩ _ N6.out hr (by omega) Y6.out.reads FC3.out).mono ?_
            rintro e w7 ⟨rfl, hk7⟩
            have K7 := Lib.hid hk7
            have Y7 := Lib.hid (Y6.out.keep hk7 (fun _ _ h => h))
            replace m0 := hk7.got m0 (fun h => h)
            replace m1 := hk7.got m1 (fun h => h)
            replace m2 := hk7.got m2 (fun h => h)
            replace m3 := hk7.got m3 (fun h => h)
            replace m4 := hk7.got m4 (fun h => h)
            replace m5 := hk7.got m5 (fun h => h)
            replace m6 := hk7.got m6 (fun h => h)
            replace m7 := hk7.got m7 (fun h => h)
            replace m8 := hk7.got m8 (fun h => h)
            clear hk7 hr hq hfull t0 t1 fs n1 n2 o1 o2
            go_wp2_with fail
            refine (spoil_any ⟨yk, k, yp, yd, yf, yl, ywa, ywl, ywc, ypa, ypl, ypc, yb⟩ _ Y7.out.mine.1 Y7.out.mine.2 ?_ ?_).mono ?_
            · have := YL.out.1; have := FC3.out.1; simp only at *; omega
            · have := YL.out.2; have := FC3.out.2; simp only at *; omega
            rintro e w8 ⟨rfl, hk8⟩
            have BN := Lib.hid (BT.out.kept K3.out HY3.out KX.out K7.out hk8)
            clear hk8 m0 m1 m2 m3 m4 m5 m6 m7 m8
            go_wp2_with fail
            go_roundw
            case rel => exact ⟨k + 1, q, ps, _, _, _, base2, by omega, by go_num, BN.out⟩
            case measure => simp [intOf]; omega
      all_goals first
        | (exfalso; omega)
        | (have r0 := BT.out.own.r.at (i := 0) rfl
           have r1 := BT.out.own.r.at (i := 1) rfl
           have frz := BT.out.own.r.free
           have ne1 : s + 1 + 1 ≠ s := by omega
           have ne2 : s ≠ s + 1 + 1 := by omega
           clear o1 o2 o4 o5 o6 o7 o8 o9 o10 o11 o12
           go_wp2_with fail
           have KE : ∀ (W : World) (o : Nat) (u : Value), Keep (fun b => b = s + 2) W (W.setCell ⟨s + 2, o, none⟩ u) := fun W o u => Keep.setCell (Keep.refl (fun b => b = s + 2) W) (p := ⟨s + 2, o, none⟩) (.inl rfl) u
           have KR := (KE wr 0 (.int .i64 L.n)).trans (KE _ 1 (.slice a' len' cap')) (fun _ h => .inl h)
           have BR := (BT.out.own.r.set 0 (.int .i64 L.n)).set 1 (.slice a' len' cap')
           have q0 := BR.at (i := 0) rfl
           have q1 := BR.at (i := 1) rfl
           have ST : State ((wr.setCell ⟨s + 2, 0, none⟩ (.int .i64 L.n)).setCell ⟨s + 2, 1, none⟩ (.slice a' len' cap')) w0.heap.size L q ps := BT.out.st.odd KR (fun b hb e => by subst e; exact ⟨⟨_, _, BT.out.own.r, by decide, by decide⟩, fun h => by have := (BT.out.above _ h).2; omega⟩)
           have RF := BT.out.ref.keep KR (fun j hj e => owns_ne BT.out.ref.row BT.out.own.r (by decide) hj e)
           have LO := BT.out.low.trans (KR.below BT.out.low.size (fun b hb e => by have := BT.out.zero; omega))
           have SM : ∀ b vs, Blk w b 54 vs → Blk ((wr.setCell ⟨s + 2, 0, none⟩ (.int .i64 L.n)).setCell ⟨s + 2, 1, none⟩ (.slice a' len' cap')) b 54 vs := fun b vs hb => (BT.out.same b vs hb).keep KR (fun e => by have := hb.lt; have := BT.out.low2; omega)
           refine bodyPost_ret (v := .tuple #[.agg #[.int .i64 L.n, .slice a' len' cap'], .bool true]) (by simp [results, Try.results23, go_sem, q0, q1]) rfl ⟨q, ps, a', len', cap', rfl, ST, ⟨base2, RF⟩, by have := BT.out.many; omega, LO, SM⟩)
  · go_enter Try.func23, Try.ntmps23
    go_wp2_with fail
    generalize (((w.alloc (.cells #[.int .i64 L.n, .slice a len cap] 54)).alloc (.cells #[.int .i64 3, .int .i64 fr, .int .i64 de, .int .i64 nn, .int .i64 ms.kind, .int .i64 ms.txn, .int .i64 ms.page, .int .i64 ms.dst, .bool ms.fast, .int .u64 ms.lsn, .slice ms.wa ms.wl ms.wc, .slice ms.pa ms.pl ms.pc, .string ms.body] 41)).alloc (.cells #[.int .i64 0, .slice none 0 0] 54)) = w1 at hW ⊢
    generalize hs : w.heap.size = s at hW ⊢
    go_loopw [9] (fun i wr => ∃ (k : Nat) (q : Nat → List Qm) (ps : List Pc) (a : Option Addr) (len' cap base' : Nat), k ≤ 260 ∧ i = .int .i64 k ∧ Between w0 w s L ⟨3, fr, de, nn, ms⟩ len wr k q ps a len' cap base') (fun i _ => 261 - (intOf i).toNat)
    case atStart => exact ⟨0, q, ps, a, len, cap, base', Nat.zero_le _, rfl, hW.out⟩
    case round =>
      clear hW
      obtain ⟨k, q, ps, a', len', cap', base2, hk, rfl, hBt⟩ := hrel
      have BT := Lib.hid hBt
      have t0 := hBt.own.t.at (i := 0) rfl
      have t1 := hBt.own.t.at (i := 1) rfl
      have o1 := hBt.own.o.at (i := 1) rfl
      have o2 := hBt.own.o.at (i := 2) rfl
      have o4 := hBt.own.o.at (i := 4) rfl
      have o5 := hBt.own.o.at (i := 5) rfl
      have o6 := hBt.own.o.at (i := 6) rfl
      have o7 := hBt.own.o.at (i := 7) rfl
      have o8 := hBt.own.o.at (i := 8) rfl
      have o9 := hBt.own.o.at (i := 9) rfl
      have o10 := hBt.own.o.at (i := 10) rfl
      have o11 := hBt.own.o.at (i := 11) rfl
      have o12 := hBt.own.o.at (i := 12) rfl
      clear hBt
      obtain ⟨N, hN⟩ : ∃ N : Int, N = nn := ⟨_, rfl⟩
      rcases (by omega : ((k : Int) < nn ∧ k < 260) ∨ ((k : Int) < nn ∧ 260 ≤ k) ∨ nn ≤ (k : Int)) with ⟨hlt, hlt1⟩ | ⟨hlt, hge⟩ | hge
      · obtain ⟨wcs, pcs, hr⟩ := (HM.out.below BT.out.low).reads
        have FC := Lib.hid (few_of hr HF.out)
        have RD := Lib.hid hr
        clear hr
        go_wp2_with fail
        refine (lawCopied_any ms _ _ RD.out FC.out).mono ?_
        rintro e w2 ⟨⟨yk, yt, yp, yd, yf, yl, ywa, ywl, ywc, ypa, ypl, ypc, yb⟩, rfl, hk2, hy⟩
        have K2 := Lib.hid hk2
        have HY := Lib.hid hy
        have O2 := Lib.hid (BT.out.own.keep hk2 (fun _ _ _ h => h))
        clear hk2 hy t0 t1 o1 o2 o4 o5 o6 o7 o8 o9 o10 o11 o12 hN
        go_wp2_with fail
        have KA : Keep (fun _ => False) w2 (w2.alloc (.cells #[.int .i64 yk, .int .i64 k, .int .i64 yp, .int .i64 yd, .bool yf, .int .u64 yl, .slice ywa ywl ywc, .slice ypa ypl ypc, .string yb] 33)) := (Keep.refl _ _).alloc _
        have K3 := Lib.hid (K2.out.none_trans KA)
        have O3 := Lib.hid (O2.out.keep KA (fun _ _ _ h => h))
        have BM : Hid (Blk (w2.alloc (.cells #[.int .i64 yk, .int .i64 k, .int .i64 yp, .int .i64 yd, .bool yf, .int .u64 yl, .slice ywa ywl ywc, .slice ypa ypl ypc, .string yb] 33)) w2.heap.size 33 [.int .i64 yk, .int .i64 k, .int .i64 yp, .int .i64 yd, .bool yf, .int .u64 yl, .slice ywa ywl ywc, .slice ypa ypl ypc, .string yb]) := heap_alloc_new _ _
        have HY3 : Hid (Holds (w2.alloc (.cells #[.int .i64 yk, .int .i64 k, .int .i64 yp, .int .i64 yd, .bool yf, .int .u64 yl, .slice ywa ywl ywc, .slice ypa ypl ypc, .string yb] 33)) wr.heap.size ⟨yk, k, yp, yd, yf, yl, ywa, ywl, ywc, ypa, ypl, ypc, yb⟩ ⟨ms.kind, k, ms.page, ms.dst, ms.fast, ms.lsn, wcs, pcs, ms.body⟩) := by
          have h1 := HY.out.keep KA (fun _ _ h => h)
          exact ⟨⟨h1.plain.kind, rfl, h1.plain.page, h1.plain.dst, h1.plain.fast, h1.plain.lsn, h1.plain.body⟩, h1.ws, h1.ps⟩
        have FC3 : Hid (Cont.few ⟨ms.kind, k, ms.page, ms.dst, ms.fast, ms.lsn, wcs, pcs, ms.body⟩) := FC.out
        have MBS : Hid (wr.heap.size ≤ w2.heap.size ∧ w2.heap.size < (w2.alloc (.cells #[.int .i64 yk, .int .i64 k, .int .i64 yp, .int .i64 yd, .bool yf, .int .u64 yl, .slice ywa ywl ywc, .slice ypa ypl ypc, .string yb] 33)).heap.size) := ⟨K2.out.size, by simp⟩
        have RF3 := Lib.hid (BT.out.ref.keep K3.out (fun _ _ h => h))
        have ML3 := Lib.hid BT.out.many
        clear KA K2 O2 HY FC RD
        generalize w2.alloc (.cells #[.int .i64 yk, .int .i64 k, .int .i64 yp, .int .i64 yd, .bool yf, .int .u64 yl, .slice ywa ywl ywc, .slice ypa ypl ypc, .string yb] 33) = w3 at K3 O3 BM HY3 MBS RF3 ⊢
        generalize w2.heap.size = mb at BM MBS ⊢
        have t0 := O3.out.t.at (i := 0) rfl
        have t1 := O3.out.t.at (i := 1) rfl
        have o1 := O3.out.o.at (i := 1) rfl
        have o2 := O3.out.o.at (i := 2) rfl
        have m0 := BM.out.at (i := 0) rfl
        have m1 := BM.out.at (i := 1) rfl
        have m2 := BM.out.at (i := 2) rfl
        have m3 := BM.out.at (i := 3) rfl
        have m4 := BM.out.at (i := 4) rfl
        have m5 := BM.out.at (i := 5) rfl
        have m6 := BM.out.at (i := 6) rfl
        have m7 := BM.out.at (i := 7) rfl
        have m8 := BM.out.at (i := 8) rfl
        go_upto_region 12 with fail
        go_cut [11, 12] (fun xp f wx => ∃ (xb : Nat) (a2 : Option Addr) (len2 cap2 : Nat) (r : Int) (z : Qm), xp = .pointer (some ⟨xb, 0, none⟩) ∧ f = .int .i64 r ∧ Keep (fun _ => False) w3 wx ∧ Blk wx xb 54 [.int .i64 L.n, .slice a2 len2 cap2] ∧ w3.heap.size ≤ xb ∧ Holds wx w3.heap.size z ⟨ms.kind, k, ms.page, ms.dst, ms.fast, ms.lsn, wcs, pcs, ms.body⟩ ∧ SendRes wx L.n (ps.map Prod.fst) fr de z a' len' cap' a2 len2 cap2 r)
        case first =>
          go_region_held3 (fun w' => w'.cell? ⟨s, 0, none⟩ = some (.int .i64 L.n) ∧ w'.cell? ⟨s, 1, none⟩ = some (.slice a' len' cap') ∧ w'.cell? ⟨s + 1, 1, none⟩ = some (.int .i64 fr) ∧ w'.cell? ⟨s + 1, 2, none⟩ = some (.int .i64 de) ∧ w'.cell? ⟨mb, 0, none⟩ = some (.int .i64 yk) ∧ w'.cell? ⟨mb, 1, none⟩ = some (.int .i64 k) ∧ w'.cell? ⟨mb, 2, none⟩ = some (.int .i64 yp) ∧ w'.cell? ⟨mb, 3, none⟩ = some (.int .i64 yd) ∧ w'.cell? ⟨mb, 4, none⟩ = some (.bool yf) ∧ w'.cell? ⟨mb, 5, none⟩ = some (.int .u64 yl) ∧ w'.cell? ⟨mb, 6, none⟩ = some (.slice ywa ywl ywc) ∧ w'.cell? ⟨mb, 7, none⟩ = some (.slice ypa ypl ypc) ∧ w'.cell? ⟨mb, 8, none⟩ = some (.string yb))
            (first
              | go_keep
              | (go_split_ands
                 refine ⟨?_, ?_, ?_, ?_, ?_, ?_, ?_, ?_, ?_, ?_, ?_, ?_, ?_⟩
                 all_goals (first | assumption | (refine Keep.got ((Keep.setCell (Keep.refl (fun b => b = w4.heap.size) w5) (p := ⟨w4.heap.size, 0, none⟩) (.inl rfl) _).setCell (p := ⟨w4.heap.size, 1, none⟩) (.inl rfl) _) ?_ (fun e => by simp only at e; omega); assumption) | (refine Keep.got ((Keep.setCell (Keep.refl (fun b => b = w3.heap.size) w5) (p := ⟨w3.heap.size, 0, none⟩) (.inl rfl) _).setCell (p := ⟨w3.heap.size, 1, none⟩) (.inl rfl) _) ?_ (fun e => by simp only at e; omega); assumption)))
              | (trace_state; fail))
            (first
              | (go_at_call 16
                 refine (lawCopied_any ⟨yk, k, yp, yd, yf, yl, ywa, ywl, ywc, ypa, ypl, ypc, yb⟩ _ _ (HY3.out.reads.keep (S := fun _ => False) ?_ (fun _ _ h => h)) FC3.out).mono ?_
                 · first | exact (Keep.refl (fun _ => False) w3).drew | exact ((Keep.refl (fun _ => False) w3).alloc _).drew
                 rintro e w4 ⟨⟨zk, zt, zp, zd, zf, zl, zwa, zwl, zwc, zpa, zpl, zpc, zb⟩, rfl, hk4, hz⟩
                 have K4 : Keep (fun _ => False) w3 w4 := by first | exact (Keep.refl (fun _ => False) w3).drew.none_trans hk4 | exact ((Keep.refl (fun _ => False) w3).alloc _).drew.none_trans hk4
                 have O4 := O3.out.keep K4 (fun _ _ _ h => h)
                 have BM4 := BM.out.keep K4 (fun h => h)
                 have u0 := O4.t.at (i := 0) rfl
                 have u1 := O4.t.at (i := 1) rfl
                 have v1 := O4.o.at (i := 1) rfl
                 have v2 := O4.o.at (i := 2) rfl
                 have p0 := BM4.at (i := 0) rfl
                 have p1 := BM4.at (i := 1) rfl
                 have p2 := BM4.at (i := 2) rfl
                 have p3 := BM4.at (i := 3) rfl
                 have p4 := BM4.at (i := 4) rfl
                 have p5 := BM4.at (i := 5) rfl
                 have p6 := BM4.at (i := 6) rfl
                 have p7 := BM4.at (i := 7) rfl
                 have p8 := BM4.at (i := 8) rfl)
              | (go_at_call 27
                 refine (refSend_any L.n a' len' cap' base2 (ps.map Prod.fst) fr de ⟨zk, zt, zp, zd, zf, zl, zwa, zwl, zwc, zpa, zpl, zpc, zb⟩ _ (RefAt.keep (S := fun _ => False) RF3.out ?_ (fun _ _ h => h)) ?_).mono ?_
                 · first | exact K4 | exact K4.alloc _
                 · have := ML3.out; omega
                 rintro e w5 ⟨a2, len2, cap2, r, rfl, hk5, hres⟩
                 have K5 : Keep (fun _ => False) w3 w5 := by first | exact K4.none_trans hk5 | exact (K4.alloc _).none_trans hk5
                 have HZ5 : Holds w5 w3.heap.size ⟨zk, zt, zp, zd, zf, zl, zwa, zwl, zwc, zpa, zpl, zpc, zb⟩ ⟨ms.kind, k, ms.page, ms.dst, ms.fast, ms.lsn, wcs, pcs, ms.body⟩ := by first | exact (hz.base (Nat.le_refl _)).keep hk5 (fun _ _ h => h) | exact ((hz.base (Nat.le_refl _)).keep ((Keep.refl (fun _ => False) _).alloc _) (fun _ _ h => h)).keep hk5 (fun _ _ h => h) | exact (hz.base (((Keep.refl (fun _ => False) w3).alloc _).drew.size)).keep hk5 (fun _ _ h => h)
                 have O5 := O3.out.keep K5 (fun _ _ _ h => h)
                 have BM5 := BM.out.keep K5 (fun h => h)
                 try (have XB : Blk w5 w4.heap.size 54 [.int .i64 0, .slice none 0 0] := (Blk.new w4 54 [.int .i64 0, .slice none 0 0]).keep hk5 (fun h => h); have x0 := XB.at (i := 0) rfl; have x1 := XB.at (i := 1) rfl; have xf := XB.free; have y1 : w4.heap.size ≠ s := (fun e => by have := O4.t.lt; omega); have y2 : w4.heap.size ≠ s + 1 := (fun e => by have := O4.o.lt; omega); have y3 : w4.heap.size ≠ mb := (fun e => by have := BM4.lt; omega))
                 try (have XA : Blk ((w3.alloc (.cells #[.int .i64 0, .slice none 0 0] 54)).drew) w3.heap.size 54 [.int .i64 0, .slice none 0 0] := Blk.new w3 54 [.int .i64 0, .slice none 0 0]; have XB : Blk w5 w3.heap.size 54 [.int .i64 0, .slice none 0 0] := (XA.keep hk4 (fun h => h)).keep hk5 (fun h => h); have x0 := XB.at (i := 0) rfl; have x1 := XB.at (i := 1) rfl; have xf := XB.free; have y1 : w3.heap.size ≠ s := (fun e => by have := O3.out.t.lt; omega); have y2 : w3.heap.size ≠ s + 1 := (fun e => by have := O3.out.o.lt; omega); have y3 : w3.heap.size ≠ mb := (fun e => by have := BM.out.lt; omega))
                 have u0 := O5.t.at (i := 0) rfl
                 have u1 := O5.t.at (i := 1) rfl
                 have v1 := O5.o.at (i := 1) rfl
                 have v2 := O5.o.at (i := 2) rfl
                 have p0 := BM5.at (i := 0) rfl
                 have p1 := BM5.at (i := 1) rfl
                 have p2 := BM5.at (i := 2) rfl
                 have p3 := BM5.at (i := 3) rfl
                 have p4 := BM5.at (i := 4) rfl
                 have p5 := BM5.at (i := 5) rfl
                 have p6 := BM5.at (i := 6) rfl
                 have p7 := BM5.at (i := 7) rfl
                 have p8 := BM5.at (i := 8) rfl))
          · go_wp2_with fail
            go_meet
            have hh := send_made K5 HZ5 hres [.int .i64 L.n, .slice a2 len2 cap2]
            exact ⟨w5.heap.size, a2, len2, cap2, r, ⟨zk, zt, zp, zd, zf, zl, zwa, zwl, zwc, zpa, zpl, zpc, zb⟩, rfl, rfl, hh.1, hh.2.1, K5.size, hh.2.2.1, hh.2.2.2⟩
          · go_wp2_with fail
            go_meet
            have hh := send_laid K5 XB K4.size HZ5 hres (.int .i64 L.n) (.slice a2 len2 cap2)
            exact ⟨w4.heap.size, a2, len2, cap2, r, ⟨zk, zt, zp, zd, zf, zl, zwa, zwl, zwc, zpa, zpl, zpc, zb⟩, rfl, rfl, hh.1, hh.2.1, K4.size, hh.2.2.1, hh.2.2.2⟩
          · go_wp2_with fail
            go_meet
            have hh := send_laid K5 XB (Nat.le_refl _) HZ5 hres (.int .i64 L.n) (.slice a2 len2 cap2)
            exact ⟨w3.heap.size, a2, len2, cap2, r, ⟨zk, zt, zp, zd, zf, zl, zwa, zwl, zwc, zpa, zpl, zpc, zb⟩, rfl, rfl, hh.1, hh.2.1, Nat.le_refl _, hh.2.2.1, hh.2.2.2⟩
        case rest =>
          obtain ⟨xb, a2, len2, cap2, r, z, rfl, rfl, hK, hX, hxb, hz, hres⟩ := hcut
          clear t0 t1 o1 o2 m0 m1 m2 m3 m4 m5 m6 m7 m8
          have KX := Lib.hid hK
          have HZ := Lib.hid hz
          have HR := Lib.hid hres
          have OX := Lib.hid (O3.out.keep hK (fun _ _ _ h => h))
          have BX := Lib.hid (BM.out.keep hK (fun h => h))
          have x0 := hX.at (i := 0) rfl
          have x1 := hX.at (i := 1) rfl
          have t0 := OX.out.t.at (i := 0) rfl
          have t1 := OX.out.t.at (i := 1) rfl
          have fs := OX.out.t.free
          obtain ⟨bt, k6⟩ := set_two OX.out.t (.int .i64 L.n) (.slice a2 len2 cap2)
          have n1 : s + 1 ≠ s := by omega
          have n2 : mb ≠ s := (fun e => by have := BT.out.own.t.lt; have := MBS.out; omega)
          have KS := Lib.hid k6
          have o1 := k6.got (OX.out.o.at (i := 1) rfl) n1
          have o2 := k6.got (OX.out.o.at (i := 2) rfl) n1
          have m0 := k6.got (BX.out.at (i := 0) rfl) n2
          have m1 := k6.got (BX.out.at (i := 1) rfl) n2
          have m2 := k6.got (BX.out.at (i := 2) rfl) n2
          have m3 := k6.got (BX.out.at (i := 3) rfl) n2
          have m4 := k6.got (BX.out.at (i := 4) rfl) n2
          have m5 := k6.got (BX.out.at (i := 5) rfl) n2
          have m6 := k6.got (BX.out.at (i := 6) rfl) n2
          have m7 := k6.got (BX.out.at (i := 7) rfl) n2
          have m8 := k6.got (BX.out.at (i := 8) rfl) n2
          clear hK hX hxb hz hres bt k6
          go_wp2_with fail
          have N6 : Hid (NetAt ((wc.setCell ⟨s, 0, none⟩ (.int .i64 L.n)).setCell ⟨s, 1, none⟩ (.slice a2 len2 cap2)) L q) := (BT.out.st.net.keep (K3.out.none_trans KX.out) (fun _ _ h => h)).keep KS.out (fun b hb e => by have := (BT.out.above _ hb).2; omega)
          have Y6 : Hid (Holds ((wc.setCell ⟨s, 0, none⟩ (.int .i64 L.n)).setCell ⟨s, 1, none⟩ (.slice a2 len2 cap2)) wr.heap.size ⟨yk, k, yp, yd, yf, yl, ywa, ywl, ywc, ypa, ypl, ypc, yb⟩ ⟨ms.kind, k, ms.page, ms.dst, ms.fast, ms.lsn, wcs, pcs, ms.body⟩) := y_there HY3.out KX.out OX.out.t (Keep.refl (fun _ => False) _) (fun _ _ h => h)
          have YL := Lib.hid (HY3.out.wl)
          rcases HR.out with ⟨hr, e1, e2, e3, e4⟩ | ⟨i, b2, hr, hq, e1, e3, hRf⟩ | ⟨i, hr, hq, e1, e2, e3, e4⟩
          · subst e1 e2 e3 e4
            refine (send_none L q fr de ⟨yk, k, yp, yd, yf, yl, ywa, ywl, ywc, ypa, ypl, ypc, yb⟩ _ _ _ _ _ _ _ N6.out hr).mono ?_
            rintro e w7 ⟨rfl, hk7⟩
            have K7 := Lib.hid hk7
            have Y7 := Lib.hid (Y6.out.keep hk7 (fun _ _ h => h))
            replace m0 := hk7.got m0 (fun h => h)
            replace m1 := hk7.got m1 (fun h => h)
            replace m2 := hk7.got m2 (fun h => h)
            replace m3 := hk7.got m3 (fun h => h)
            replace m4 := hk7.got m4 (fun h => h)
            replace m5 := hk7.got m5 (fun h => h)
            replace m6 := hk7.got m6 (fun h => h)
            replace m7 := hk7.got m7 (fun h => h)
            replace m8 := hk7.got m8 (fun h => h)
            clear hk7 hr t0 t1 fs n1 n2 o1 o2
            go_wp2_with fail
            refine (spoil_any ⟨yk, k, yp, yd, yf, yl, ywa, ywl, ywc, ypa, ypl, ypc, yb⟩ _ Y7.out.mine.1 Y7.out.mine.2 ?_ ?_).mono ?_
            · have := YL.out.1; have := FC3.out.1; simp only at *; omega
            · have := YL.out.2; have := FC3.out.2; simp only at *; omega
            rintro e w8 ⟨rfl, hk8⟩
            have BN := Lib.hid (BT.out.kept K3.out HY3.out KX.out K7.out hk8)
            clear hk8 m0 m1 m2 m3 m4 m5 m6 m7 m8
            go_wp2_with fail
            go_roundw
            case rel => exact ⟨k + 1, q, ps, _, _, _, base2, by omega, by go_num, BN.out⟩
            case measure => simp [intOf]; omega
          · subst e1
            have ci : Hid (L.c i < s) := (BT.out.above _ (.inr (.inr (.inr ⟨i, rowIx_lt hr, rfl⟩)))).2
            rw [← BT.out.st.qlen hr] at hq
            refine (send_holds L q fr de i ⟨yk, k, yp, yd, yf, yl, ywa, ywl, ywc, ypa, ypl, ypc, yb⟩ ⟨ms.kind, k, ms.page, ms.dst, ms.fast, ms.lsn, wcs, pcs, ms.body⟩ _ N6.out hr hq Y6.out.reads FC3.out).mono ?_
            rintro e w7 ⟨rfl, x, hN, hk7, hx⟩
            have K7 := Lib.hid hk7
            have Y7 := Lib.hid (Y6.out.keep_net N6.out (rowIx_lt hr) hk7)
            have mc : mb ≠ L.c i := (fun e => by have := ci.out; have := BT.out.own.t.lt; have := MBS.out; omega)
            replace m0 := hk7.got m0 mc
            replace m1 := hk7.got m1 mc
            replace m2 := hk7.got m2 mc
            replace m3 := hk7.got m3 mc
            replace m4 := hk7.got m4 mc
            replace m5 := hk7.got m5 mc
            replace m6 := hk7.got m6 mc
            replace m7 := hk7.got m7 mc
            replace m8 := hk7.got m8 mc
            have HN := Lib.hid hN
            have HX := Lib.hid (hx.base KS.out.size)
            have R := Lib.hid hr
            have RF := Lib.hid hRf
            have E3 := Lib.hid e3
            clear hk7 hr hq t0 t1 fs n1 n2 o1 o2 hN hx hRf e3 mc
            go_wp2_with fail
            refine (spoil_any ⟨yk, k, yp, yd, yf, yl, ywa, ywl, ywc, ypa, ypl, ypc, yb⟩ _ Y7.out.mine.1 Y7.out.mine.2 ?_ ?_).mono ?_
            · have := YL.out.1; have := FC3.out.1; simp only at *; omega
            · have := YL.out.2; have := FC3.out.2; simp only at *; omega
            rintro e w8 ⟨rfl, hk8⟩
            have BN := Lib.hid (BT.out.sent K3.out HY3.out KX.out HZ.out R.out RF.out E3.out HN.out K7.out HX.out FC3.out hk8)
            clear hk8 m0 m1 m2 m3 m4 m5 m6 m7 m8
            go_wp2_with fail
            go_roundw
            case rel => exact ⟨k + 1, _, _, _, _, _, _, by omega, by go_num, BN.out⟩
            case measure => simp [intOf]; omega
          · subst e1 e2 e3 e4
            have hfull := BT.out.st.net.len i (rowIx_lt hr)
            rw [← BT.out.st.qlen hr] at hq
            refine (send_full_reads L q fr de i ⟨yk, k, yp, yd, yf, yl, ywa, ywl, ywc, ypa, ypl, ypc, yb⟩ ⟨ms.kind, k, ms.page, ms.dst, ms.fast, ms.lsn, wcs, pcs, ms.body⟩ _ N6.out hr (by omega) Y6.out.reads FC3.out).mono ?_
            rintro e w7 ⟨rfl, hk7⟩
            have K7 := Lib.hid hk7
            have Y7 := Lib.hid (Y6.out.keep hk7 (fun _ _ h => h))
            replace m0 := hk7.got m0 (fun h => h)
            replace m1 := hk7.got m1 (fun h => h)
            replace m2 := hk7.got m2 (fun h => h)
            replace m3 := hk7.got m3 (fun h => h)
            replace m4 := hk7.got m4 (fun h => h)
            replace m5 := hk7.got m5 (fun h => h)
            replace m6 := hk7.got m6 (fun h => h)
            replace m7 := hk7.got m7 (fun h => h)
            replace m8 := hk7.got m8 (fun h => h)
            clear hk7 hr hq hfull t0 t1 fs n1 n2 o1 o2
            go_wp2_with fail
            refine (spoil_any ⟨yk, k, yp, yd, yf, yl, ywa, ywl, ywc, ypa, ypl, ypc, yb⟩ _ Y7.out.mine.1 Y7.out.mine.2 ?_ ?_).mono ?_
            · have := YL.out.1; have := FC3.out.1; simp only at *; omega
            · have := YL.out.2; have := FC3.out.2; simp only at *; omega
            rintro e w8 ⟨rfl, hk8⟩
            have BN := Lib.hid (BT.out.kept K3.out HY3.out KX.out K7.out hk8)
            clear hk8 m0 m1 m2 m3 m4 m5 m6 m7 m8
            go_wp2_with fail
            go_roundw
            case rel => exact ⟨k + 1, q, ps, _, _, _, base2, by omega, by go_num, BN.out⟩
            case measure => simp [intOf]; omega
      all_goals first
        | (exfalso; omega)
        | (have r0 := BT.out.own.r.at (i := 0) rfl
           have r1 := BT.out.own.r.at (i := 1) rfl
           have frz := BT.out.own.r.free
           have ne1 : s + 1 + 1 ≠ s := by omega
           have ne2 : s ≠ s + 1 + 1 := by omega
           clear o1 o2 o4 o5 o6 o7 o8 o9 o10 o11 o12
           go_wp2_with fail
           have KE : ∀ (W : World) (o : Nat) (u : Value), Keep (fun b => b = s + 2) W (W.setCell ⟨s + 2, o, none⟩ u) := fun W o u => Keep.setCell (Keep.refl (fun b => b = s + 2) W) (p := ⟨s + 2, o, none⟩) (.inl rfl) u
           have KR := (KE wr 0 (.int .i64 L.n)).trans (KE _ 1 (.slice a' len' cap')) (fun _ h => .inl h)
           have BR := (BT.out.own.r.set 0 (.int .i64 L.n)).set 1 (.slice a' len' cap')
           have q0 := BR.at (i := 0) rfl
           have q1 := BR.at (i := 1) rfl
           have ST : State ((wr.setCell ⟨s + 2, 0, none⟩ (.int .i64 L.n)).setCell ⟨s + 2, 1, none⟩ (.slice a' len' cap')) w0.heap.size L q ps := BT.out.st.odd KR (fun b hb e => by subst e; exact ⟨⟨_, _, BT.out.own.r, by decide, by decide⟩, fun h => by have := (BT.out.above _ h).2; omega⟩)
           have RF := BT.out.ref.keep KR (fun j hj e => owns_ne BT.out.ref.row BT.out.own.r (by decide) hj e)
           have LO := BT.out.low.trans (KR.below BT.out.low.size (fun b hb e => by have := BT.out.zero; omega))
           have SM : ∀ b vs, Blk w b 54 vs → Blk ((wr.setCell ⟨s + 2, 0, none⟩ (.int .i64 L.n)).setCell ⟨s + 2, 1, none⟩ (.slice a' len' cap')) b 54 vs := fun b vs hb => (BT.out.same b vs hb).keep KR (fun e => by have := hb.lt; have := BT.out.low2; omega)
           refine bodyPost_ret (v := .tuple #[.agg #[.int .i64 L.n, .slice a' len' cap'], .bool true]) (by simp [results, Try.results23, go_sem, q0, q1]) rfl ⟨q, ps, a', len', cap', rfl, ST, ⟨base2, RF⟩, by have := BT.out.many; omega, LO, SM⟩)

end Go.Proofs.Ytgphlopbbmjdhaa
