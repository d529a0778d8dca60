/- 'Take' of the document's net. -/
import Derived.Test.YtgphlopbbmjdhaaRefSend
namespace Go.Proofs.Ytgphlopbbmjdhaa
open Go.RowKit Go.Conc
set_option linter.unusedVariables false
set_option linter.unusedSimpArgs false

def It.is (z : It) (f t : Int) : Prop := z.frm = f ∧ z.dest = t

/-- Three blocks that 'Take' has made for itself. -/
structure Trio (w : World) (b : Nat) (ts rs ms : List Value) : Prop where
  t : Blk w b 54 ts
  r : Blk w (b + 1) 54 rs
  m : Blk w (b + 2) 33 ms

theorem Trio.keep {w w' : World} {b : Nat} {ts ms rs : List Value} (h : Trio w b ts rs ms) (k : Keep (fun _ => False) w w') : Trio w' b ts rs ms := ⟨h.t.keep k (fun h => h), h.r.keep k (fun h => h), h.m.keep k (fun h => h)⟩

theorem Trio.grown {w w' : World} {b base n : Nat} {ts ms rs xs : List Value} {v : Value} (h : Trio w b ts rs ms) (ho : w.ownsRow base 77 11 v n xs) (k : Keep (fun j => v.ownBlock = some j) w w') : Trio w' b ts rs ms :=
  ⟨h.t.keep k (fun e => owns_ne ho h.t (by decide) e rfl), h.r.keep k (fun e => owns_ne ho h.r (by decide) e rfl), h.m.keep k (fun e => owns_ne ho h.m (by decide) e rfl)⟩

theorem Trio.new (w : World) (ts rs ms : List Value) : Trio (((w.alloc (.cells ts.toArray 54)).alloc (.cells rs.toArray 54)).alloc (.cells ms.toArray 33)) w.heap.size ts rs ms := by
  have h1 := Blk.new w 54 ts
  have h2 := Blk.new (w.alloc (.cells ts.toArray 54)) 54 rs
  have h3 := Blk.new ((w.alloc (.cells ts.toArray 54)).alloc (.cells rs.toArray 54)) 33 ms
  have s2 : (w.alloc (.cells ts.toArray 54)).heap.size = w.heap.size + 1 := by simp
  have s3 : ((w.alloc (.cells ts.toArray 54)).alloc (.cells rs.toArray 54)).heap.size = w.heap.size + 2 := by simp
  rw [s2] at h2
  rw [s3] at h3
  exact ⟨(h1.keep ((Keep.refl (fun _ => False) _).alloc _) (fun h => h)).keep ((Keep.refl (fun _ => False) _).alloc _) (fun h => h), h2.keep ((Keep.refl (fun _ => False) _).alloc _) (fun h => h), h3⟩

/-- The head of a list of items; what stands behind one. -/
theorem RefAt.head {w : World} {base : Nat} {g n cap : Nat} {zs : List It} (h : RefAt w base (some ⟨g, 0, none⟩) n cap zs) {j c : Nat} (hj : j ≤ n) : Src w (some ⟨g, 0, none⟩) j c 11 (itcells (zs.take j)) := by
  refine .inr ⟨_, rfl, by rw [itcells_length, List.length_take, h.len]; simp [Nat.min_eq_left hj], fun i u hu => ?_, itcells_ones _⟩
  refine h.row.cells rfl i u ?_
  have : itcells zs = itcells (zs.take j) ++ itcells (zs.drop j) := by rw [← itcells_append, List.take_append_drop]
  rw [this, List.getElem?_append_left (List.getElem?_eq_some_iff.1 hu).1]
  exact hu

theorem RefAt.behind {w : World} {base : Nat} {g n cap : Nat} {zs : List It} (h : RefAt w base (some ⟨g, 0, none⟩) n cap zs) {j m c : Nat} (hj : j + m = n) : Src w (some ⟨g, j * 11, none⟩) m c 11 (itcells (zs.drop j)) := by
  refine .inr ⟨_, rfl, by rw [itcells_length, List.length_drop, h.len]; congr 1; omega, fun i u hu => ?_, itcells_ones _⟩
  have e : itcells zs = itcells (zs.take j) ++ itcells (zs.drop j) := by rw [← itcells_append, List.take_append_drop]
  have := h.row.cells rfl (j * 11 + i) u (by
    have hl : (itcells (zs.take j)).length = j * 11 := by rw [itcells_length, List.length_take, h.len, Nat.min_eq_left (by omega)]
    rw [e, List.getElem?_append_right (by omega), hl, Nat.add_sub_cancel_left]
    exact hu)
  rw [Go.WideShapes.add_plain] at this ⊢
  rwa [Nat.zero_add] at this

theorem RefAt.cap {w : World} {base : Nat} {g n cap : Nat} {zs : List It} (h : RefAt w base (some ⟨g, 0, none⟩) n cap zs) : n ≤ cap ∧ cap ≤ maxLen := by
  rcases h.row.2 with ⟨hv, _⟩ | ⟨g', cap', cur, hv, _, _, h1, h2, _⟩
  · simp at hv
  · simp only [Value.slice.injEq, true_and] at hv
    obtain ⟨_, rfl⟩ := hv
    exact ⟨h1, h2⟩

set_option maxHeartbeats 2000000 in
set_option maxRecDepth 100000 in
theorem refTake_some (n : Nat) (a : Option Addr) (len cap base : Nat) (zs : List It) (f t : Int) (j : Nat) (z : It) (w : World) (h : RefAt w base a len cap zs) (hlen : len ≤ 1000000)
    (hz : zs[j]? = some z) (hzi : z.is f t) (hno : ∀ i y, i < j → zs[i]? = some y → ¬ y.is f t) :
    Calls Try.prog 29 #[.agg #[.int .i64 n, .slice a len cap], .int .i64 f, .int .i64 t] w fun e w' =>
      ∃ a' cap', e = .returned (.tuple #[.agg #[.int .i64 n, .slice a' (len - 1) cap'], .agg #[.int .i64 z.m.kind, .int .i64 z.m.txn, .int .i64 z.m.page, .int .i64 z.m.dst, .bool z.m.fast, .int .u64 z.m.lsn, .slice z.m.wa z.m.wl z.m.wc, .slice z.m.pa z.m.pl z.m.pc, .string z.m.body], .bool true]) ∧
        RefAt w' w.heap.size a' (len - 1) cap' (zs.take j ++ zs.drop (j + 1)) ∧ Keep (fun _ => False) w w' := by
  obtain ⟨i0, hi0, hz0, hz1, hz2⟩ := info_parts info77
  have HR := Lib.hid h
  have HL := Lib.hid h.len
  have HZ := Lib.hid hz
  have HI := Lib.hid hzi
  have HN := Lib.hid hno
  have hjl : j < len := by rw [← h.len]; exact (List.getElem?_eq_some_iff.1 hz).1
  clear h hz hzi hno
  have K0 : Keep (fun _ => False) w (((w.alloc (.cells #[.int .i64 n, .slice a len cap] 54)).alloc (.cells #[.int .i64 0, .slice none 0 0] 54)).alloc (.cells #[.int .i64 0, .int .i64 0, .int .i64 0, .int .i64 0, .bool false, .int .u64 0, .slice none 0 0, .slice none 0 0, .string ⟨#[]⟩] 33)) := (((Keep.refl _ _).alloc _).alloc _).alloc _
  have B0 : Trio (((w.alloc (.cells #[.int .i64 n, .slice a len cap] 54)).alloc (.cells #[.int .i64 0, .slice none 0 0] 54)).alloc (.cells #[.int .i64 0, .int .i64 0, .int .i64 0, .int .i64 0, .bool false, .int .u64 0, .slice none 0 0, .slice none 0 0, .string ⟨#[]⟩] 33)) w.heap.size [.int .i64 n, .slice a len cap] [.int .i64 0, .slice none 0 0] [.int .i64 0, .int .i64 0, .int .i64 0, .int .i64 0, .bool false, .int .u64 0, .slice none 0 0, .slice none 0 0, .string ⟨#[]⟩] := Trio.new w [.int .i64 n, .slice a len cap] [.int .i64 0, .slice none 0 0] [.int .i64 0, .int .i64 0, .int .i64 0, .int .i64 0, .bool false, .int .u64 0, .slice none 0 0, .slice none 0 0, .string ⟨#[]⟩]
  go_enter Try.func29, Try.ntmps29
  go_wp2_with fail
  generalize (((w.alloc (.cells #[.int .i64 n, .slice a len cap] 54)).alloc (.cells #[.int .i64 0, .slice none 0 0] 54)).alloc (.cells #[.int .i64 0, .int .i64 0, .int .i64 0, .int .i64 0, .bool false, .int .u64 0, .slice none 0 0, .slice none 0 0, .string ⟨#[]⟩] 33)) = w0 at K0 B0 ⊢
  have t0 := B0.t.at (i := 0) rfl
  have t1 := B0.t.at (i := 1) rfl
  have KK := Lib.hid K0
  have BB := Lib.hid B0
  have R0 := Lib.hid (HR.out.keep K0 (fun _ _ h => h))
  clear K0 B0
  go_loopw [9] (fun i wr => ∃ (k : Nat), k ≤ j ∧ i = .int .i64 k ∧ wr = w0) (fun i _ => j - (intOf i).toNat)
  case atStart => exact ⟨0, Nat.zero_le _, rfl, rfl⟩
  case round =>
    obtain ⟨k, hk, rfl, rfl⟩ := hrel
    have hkl : (k : Int) < len := by omega
    rcases (by omega : k < j ∨ k = j) with hlt | rfl
    · obtain ⟨y, hy⟩ : ∃ y, zs[k]? = some y := ⟨_, List.getElem?_eq_getElem (by rw [HL.out]; omega)⟩
      have hny := HN.out k y hlt hy
      obtain ⟨g, rfl, hi⟩ := R0.out.item hy
      obtain ⟨c0, c1, _⟩ := hi
      simp only [Nat.zero_add] at c0 c1
      obtain ⟨yf, yd, ym⟩ := y
      simp only [It.is] at hny
      clear hy
      by_cases h1 : yf = f
      · have h1b : (yf == f) = true := by rw [beq_iff_eq]; exact h1
        have h2b : (yd == t) = false := by rw [beq_eq_false_iff_ne]; exact fun h2 => hny ⟨h1, h2⟩
        clear h1 hny
        go_wp2_with fail
        go_roundw
        case rel => exact ⟨k + 1, by omega, by go_num, by simp⟩
        case measure => simp [intOf]; omega
      · have h1b : (yf == f) = false := by rw [beq_eq_false_iff_ne]; exact h1
        clear h1 hny
        go_wp2_with fail
        go_roundw
        case rel => exact ⟨k + 1, by omega, by go_num, by simp⟩
        case measure => simp [intOf]; omega
    · obtain ⟨g, rfl, hi⟩ := R0.out.item HZ.out
      obtain ⟨c0, c1, e0, e1, e2, e3, e4, e5, e6, e7, e8⟩ := hi
      simp only [Nat.zero_add] at c0 c1 e0 e1 e2 e3 e4 e5 e6 e7 e8
      obtain ⟨h1, h2⟩ := HI.out
      have h1b : (z.frm == f) = true := by rw [beq_iff_eq]; exact h1
      have h2b : (z.dest == t) = true := by rw [beq_iff_eq]; exact h2
      have hcap := R0.out.cap
      have hc1 : (k : Int) ≤ cap := by omega
      have hc2 : (k : Int) + 1 ≤ len := by omega
      have hc3 : (len : Int) ≤ cap := by omega
      clear h1 h2
      go_upto_region 6 with fail
      have KA : Keep (fun _ => False) wr (wr.alloc (.cells #[.int .i64 z.m.kind, .int .i64 z.m.txn, .int .i64 z.m.page, .int .i64 z.m.dst, .bool z.m.fast, .int .u64 z.m.lsn, .slice z.m.wa z.m.wl z.m.wc, .slice z.m.pa z.m.pl z.m.pc, .string z.m.body] 33)) := (Keep.refl _ _).alloc _
      have BM : Hid (Blk (wr.alloc (.cells #[.int .i64 z.m.kind, .int .i64 z.m.txn, .int .i64 z.m.page, .int .i64 z.m.dst, .bool z.m.fast, .int .u64 z.m.lsn, .slice z.m.wa z.m.wl z.m.wc, .slice z.m.pa z.m.pl z.m.pc, .string z.m.body] 33)) wr.heap.size 33 z.m.cells) := Blk.new wr 33 z.m.cells
      have K1 := Lib.hid (KK.out.none_trans KA)
      have B1 := Lib.hid (BB.out.keep KA)
      have R1 := Lib.hid (R0.out.keep KA (fun _ _ h => h))
      have ne1 : wr.heap.size ≠ w.heap.size := fun e => by have := BB.out.t.lt; omega
      have ne2 : wr.heap.size ≠ w.heap.size + 1 := fun e => by have := BB.out.r.lt; omega
      have ne3 : wr.heap.size ≠ w.heap.size + 2 := fun e => by have := BB.out.m.lt; omega
      have NE := Lib.hid (And.intro ne1 (And.intro ne2 ne3))
      clear KA ne1 ne2 ne3 t0 t1 c0 c1 e0 e1 e2 e3 e4 e5 e6 e7 e8 KK BB R0
      generalize wr.alloc (.cells #[.int .i64 z.m.kind, .int .i64 z.m.txn, .int .i64 z.m.page, .int .i64 z.m.dst, .bool z.m.fast, .int .u64 z.m.lsn, .slice z.m.wa z.m.wl z.m.wc, .slice z.m.pa z.m.pl z.m.pc, .string z.m.body] 33) = w1 at BM K1 B1 R1 ⊢
      generalize wr.heap.size = b at BM NE ⊢
      have t0 := B1.out.t.at (i := 0) rfl
      have t1 := B1.out.t.at (i := 1) rfl
      have SZ : Hid (w.heap.size ≤ w1.heap.size) := K1.out.size
      go_wp2_with (at_builtin; refine wpList_append_src rfl _ _ 52 rfl w.heap.size 77 i0 (.agg #[.int .i64 0, .int .i64 0, .int .i64 0, .int .i64 0, .int .i64 0, .int .i64 0, .bool false, .int .u64 0, .slice none 0 0, .slice none 0 0, .string ByteArray.empty]) 11 128 Try.underlying52 hi0 hz0 hz1 hz2 rfl (by decide) (.slice none 0 0) 0 [] rfl (World.ownsRow_nil _ _ _ _) (some ⟨g, 0, none⟩) k cap (itcells (zs.take k)) rfl ?_ (by unfold maxLen; omega) (by omega) SZ.out ?_)
      · exact R1.out.head (by omega)
      intro sw w3 hown hgrow
      obtain ⟨a1, c1, rfl⟩ := owns_shape hown
      have KG : Keep (fun _ => False) w1 w3 := (Keep.refl _ _).grown hgrow (fun k hk => by simp [Value.ownBlock] at hk)
      have K3 := Lib.hid (K1.out.none_trans KG)
      have B3 := Lib.hid (B1.out.keep KG)
      have R3 := Lib.hid (R1.out.keep KG (fun _ _ h => h))
      have BM3 := Lib.hid (BM.out.keep KG (fun h => h))
      have O3 := Lib.hid hown
      clear hown hgrow KG t0 t1 K1 B1 R1 BM SZ
      have t0 := B3.out.t.at (i := 0) rfl
      have t1 := B3.out.t.at (i := 1) rfl
      have SZ3 : Hid (w.heap.size ≤ w3.heap.size) := K3.out.size
      have NEO : Hid (∀ j, (Value.slice a1 k c1).ownBlock = some j → j ≠ b) := fun j hj => owns_ne O3.out BM3.out (by decide) hj
      have hle : k + (len - (k + 1)) = len - 1 := by omega
      rcases (by omega : k + 1 < cap ∨ (k + 1 = cap ∧ len = k + 1)) with hlt | ⟨rfl, rfl⟩
      all_goals first
        | (have hc4 : (k : Int) + 1 < cap := by omega
           go_wp2_with (at_builtin; refine wpList_append_src rfl _ _ 52 rfl w.heap.size 77 i0 (.agg #[.int .i64 0, .int .i64 0, .int .i64 0, .int .i64 0, .int .i64 0, .int .i64 0, .bool false, .int .u64 0, .slice none 0 0, .slice none 0 0, .string ByteArray.empty]) 11 128 Try.underlying52 hi0 hz0 hz1 hz2 rfl (by decide) (.slice a1 k c1) k (itcells (zs.take k)) rfl O3.out (some ⟨g, (k + 1) * 11, none⟩) (len - (k + 1)) (cap - (k + 1)) (itcells (zs.drop (k + 1))) rfl ?_ (by unfold maxLen; omega) (by omega) SZ3.out ?_)
           · exact R3.out.behind (by omega))
        | (go_wp2_with (at_builtin; refine wpList_append_src rfl _ _ 52 rfl w.heap.size 77 i0 (.agg #[.int .i64 0, .int .i64 0, .int .i64 0, .int .i64 0, .int .i64 0, .int .i64 0, .bool false, .int .u64 0, .slice none 0 0, .slice none 0 0, .string ByteArray.empty]) 11 128 Try.underlying52 hi0 hz0 hz1 hz2 rfl (by decide) (.slice a1 k c1) k (itcells (zs.take k)) rfl O3.out (some ⟨g, 0, none⟩) 0 0 (itcells (zs.drop (k + 1))) rfl ?_ (by unfold maxLen; omega) (by omega) SZ3.out ?_)
           · rw [List.drop_of_length_le (by rw [HL.out]; exact Nat.le_refl _)]; exact .inr ⟨_, rfl, rfl, fun j u h => by simp [itcells] at h, fun u h => by simp [itcells] at h⟩)
      all_goals
        intro sw w4 hown hgrow hnil
        obtain ⟨a2, c2, rfl⟩ := owns_shape hown
        clear hnil
        have K4 : Keep (fun j => (Value.slice a1 k c1).ownBlock = some j) w3 w4 := (Keep.refl _ w3).grown hgrow (fun j hj => .inl hj)
        have K5 := Lib.hid (K3.out.trans K4 (fun j e => .inr (O3.out.lt j e).1))
        have B4 := B3.out.grown O3.out K4
        have BM4 := BM3.out.keep K4 (fun e => NEO.out b e rfl)
        have HO := Lib.hid hown
        have t0' := B4.t.at (i := 0) rfl
        have r0 := B4.r.at (i := 0) rfl
        have r1 := B4.r.at (i := 1) rfl
        have fr := B4.r.free
        have n0 := B4.m.at (i := 0) rfl
        have n1 := B4.m.at (i := 1) rfl
        have n2 := B4.m.at (i := 2) rfl
        have n3 := B4.m.at (i := 3) rfl
        have n4 := B4.m.at (i := 4) rfl
        have n5 := B4.m.at (i := 5) rfl
        have n6 := B4.m.at (i := 6) rfl
        have n7 := B4.m.at (i := 7) rfl
        have n8 := B4.m.at (i := 8) rfl
        have fm := B4.m.free
        have m0 := BM4.at (i := 0) rfl
        have m1 := BM4.at (i := 1) rfl
        have m2 := BM4.at (i := 2) rfl
        have m3 := BM4.at (i := 3) rfl
        have m4 := BM4.at (i := 4) rfl
        have m5 := BM4.at (i := 5) rfl
        have m6 := BM4.at (i := 6) rfl
        have m7 := BM4.at (i := 7) rfl
        have m8 := BM4.at (i := 8) rfl
        have HB4 := Lib.hid B4
        have HBM4 := Lib.hid BM4
        obtain ⟨ne1, ne2, ne3⟩ := NE.out
        have ne4 : w.heap.size + 1 ≠ b := fun e => ne2 e.symm
        have ne5 : w.heap.size + 1 + 1 ≠ b := fun e => ne3 e.symm
        have ne6 : b ≠ w.heap.size + 1 + 1 := ne3
        have ne7 : w.heap.size + 1 + 1 ≠ w.heap.size := by omega
        have ne8 : w.heap.size ≠ w.heap.size + 1 + 1 := by omega
        have ne9 : w.heap.size ≠ w.heap.size + 1 := by omega
        have ne10 : w.heap.size + 1 ≠ w.heap.size := by omega
        clear hown hgrow K4 B4 BM4 t0 t1 K3 B3 BM3
        go_wp2_with fail
        go_region_held3 (fun w' => w'.cell? ⟨w.heap.size, 0, none⟩ = some (.int .i64 n) ∧ w'.cell? ⟨b, 0, none⟩ = some (.int .i64 z.m.kind) ∧ w'.cell? ⟨b, 1, none⟩ = some (.int .i64 z.m.txn) ∧ w'.cell? ⟨b, 2, none⟩ = some (.int .i64 z.m.page) ∧ w'.cell? ⟨b, 3, none⟩ = some (.int .i64 z.m.dst) ∧ w'.cell? ⟨b, 4, none⟩ = some (.bool z.m.fast) ∧ w'.cell? ⟨b, 5, none⟩ = some (.int .u64 z.m.lsn) ∧ w'.cell? ⟨b, 6, none⟩ = some (.slice z.m.wa z.m.wl z.m.wc) ∧ w'.cell? ⟨b, 7, none⟩ = some (.slice z.m.pa z.m.pl z.m.pc) ∧ w'.cell? ⟨b, 8, none⟩ = some (.string z.m.body))
          (first | go_keep | (trace_state; fail))
          (fail)
        go_wp2_with fail
      · have hleh := hle
        have KE1 : ∀ (W : World) (o : Nat) (u : Value), Keep (fun k => k = w.heap.size + 1) W (W.setCell ⟨w.heap.size + 1, o, none⟩ u) := fun W o u => Keep.setCell (Keep.refl (fun k => k = w.heap.size + 1) W) (p := ⟨w.heap.size + 1, o, none⟩) (.inl rfl) u
        have KR := (KE1 w4 0 (.int .i64 n)).trans (KE1 _ 1 (.slice a2 (len - 1) c2)) (fun _ h => .inl h)
        have BR := (HB4.out.r.set 0 (.int .i64 n)).set 1 (.slice a2 (len - 1) c2)
        obtain ⟨B9, KF⟩ := (HB4.out.m.keep KR (by omega)).set9 (.int .i64 z.m.kind) (.int .i64 z.m.txn) (.int .i64 z.m.page) (.int .i64 z.m.dst) (.bool z.m.fast) (.int .u64 z.m.lsn) (.slice z.m.wa z.m.wl z.m.wc) (.slice z.m.pa z.m.pl z.m.pc) (.string z.m.body)
        have BR9 := BR.keep KF (by omega)
        have q0 := BR9.at (i := 0) rfl
        have q1 := BR9.at (i := 1) rfl
        have q2 := B9.at (i := 0) rfl
        have q3 := B9.at (i := 1) rfl
        have q4 := B9.at (i := 2) rfl
        have q5 := B9.at (i := 3) rfl
        have q6 := B9.at (i := 4) rfl
        have q7 := B9.at (i := 5) rfl
        have q8 := B9.at (i := 6) rfl
        have q9 := B9.at (i := 7) rfl
        have q10 := B9.at (i := 8) rfl
        have hne1 : ∀ j, (Value.slice a2 (len - 1) c2).ownBlock = some j → ¬ (j = w.heap.size + 1) := fun j hj => owns_ne HO.out HB4.out.r (by decide) hj
        have hne2 : ∀ j, (Value.slice a2 (len - 1) c2).ownBlock = some j → ¬ (j = w.heap.size + 2) := fun j hj => owns_ne HO.out HB4.out.m (by decide) hj
        refine bodyPost_ret (v := .tuple #[.agg #[.int .i64 n, .slice a2 (len - 1) c2], .agg #[.int .i64 z.m.kind, .int .i64 z.m.txn, .int .i64 z.m.page, .int .i64 z.m.dst, .bool z.m.fast, .int .u64 z.m.lsn, .slice z.m.wa z.m.wl z.m.wc, .slice z.m.pa z.m.pl z.m.pc, .string z.m.body], .bool true]) (by simp [results, Try.results29, go_sem, q0, q1, q2, q3, q4, q5, q6, q7, q8, q9, q10]) rfl ⟨a2, c2, rfl, ⟨by first | (simp [HL.out]; done) | (simp [HL.out]; omega), ?_⟩, ((K5.out.trans KR (fun _ e => .inr (by omega))).trans KF (fun _ e => .inr (by omega))).drew⟩
        rw [itcells_append]
        exact (owns_keep (owns_keep HO.out KR hne1) KF hne2).drew
      · have hleh := hle
        have KE1 : ∀ (W : World) (o : Nat) (u : Value), Keep (fun k => k = w.heap.size + 1) W (W.setCell ⟨w.heap.size + 1, o, none⟩ u) := fun W o u => Keep.setCell (Keep.refl (fun k => k = w.heap.size + 1) W) (p := ⟨w.heap.size + 1, o, none⟩) (.inl rfl) u
        have KR := (KE1 w4 0 (.int .i64 n)).trans (KE1 _ 1 (.slice a2 (k) c2)) (fun _ h => .inl h)
        have BR := (HB4.out.r.set 0 (.int .i64 n)).set 1 (.slice a2 (k) c2)
        obtain ⟨B9, KF⟩ := (HB4.out.m.keep KR (by omega)).set9 (.int .i64 z.m.kind) (.int .i64 z.m.txn) (.int .i64 z.m.page) (.int .i64 z.m.dst) (.bool z.m.fast) (.int .u64 z.m.lsn) (.slice z.m.wa z.m.wl z.m.wc) (.slice z.m.pa z.m.pl z.m.pc) (.string z.m.body)
        have BR9 := BR.keep KF (by omega)
        have q0 := BR9.at (i := 0) rfl
        have q1 := BR9.at (i := 1) rfl
        have q2 := B9.at (i := 0) rfl
        have q3 := B9.at (i := 1) rfl
        have q4 := B9.at (i := 2) rfl
        have q5 := B9.at (i := 3) rfl
        have q6 := B9.at (i := 4) rfl
        have q7 := B9.at (i := 5) rfl
        have q8 := B9.at (i := 6) rfl
        have q9 := B9.at (i := 7) rfl
        have q10 := B9.at (i := 8) rfl
        have hne1 : ∀ j, (Value.slice a2 (k) c2).ownBlock = some j → ¬ (j = w.heap.size + 1) := fun j hj => owns_ne HO.out HB4.out.r (by decide) hj
        have hne2 : ∀ j, (Value.slice a2 (k) c2).ownBlock = some j → ¬ (j = w.heap.size + 2) := fun j hj => owns_ne HO.out HB4.out.m (by decide) hj
        refine bodyPost_ret (v := .tuple #[.agg #[.int .i64 n, .slice a2 (k) c2], .agg #[.int .i64 z.m.kind, .int .i64 z.m.txn, .int .i64 z.m.page, .int .i64 z.m.dst, .bool z.m.fast, .int .u64 z.m.lsn, .slice z.m.wa z.m.wl z.m.wc, .slice z.m.pa z.m.pl z.m.pc, .string z.m.body], .bool true]) (by simp [results, Try.results29, go_sem, q0, q1, q2, q3, q4, q5, q6, q7, q8, q9, q10]) rfl ⟨a2, c2, rfl, ⟨by first | (simp [HL.out]; done) | (simp [HL.out]; omega), ?_⟩, ((K5.out.trans KR (fun _ e => .inr (by omega))).trans KF (fun _ e => .inr (by omega))).drew⟩
        rw [itcells_append]
        exact (owns_keep (owns_keep HO.out KR hne1) KF hne2).drew


set_option maxHeartbeats 2000000 in
set_option maxRecDepth 100000 in
theorem refTake_none (n : Nat) (a : Option Addr) (len cap base : Nat) (zs : List It) (f t : Int) (w : World) (h : RefAt w base a len cap zs) (hlen : len ≤ 1000000)
    (hno : ∀ (i : Nat) y, zs[i]? = some y → ¬ y.is f t) :
    Calls Try.prog 29 #[.agg #[.int .i64 n, .slice a len cap], .int .i64 f, .int .i64 t] w fun e w' =>
      e = .returned (.tuple #[.agg #[.int .i64 n, .slice a len cap], .agg #[.int .i64 0, .int .i64 0, .int .i64 0, .int .i64 0, .bool false, .int .u64 0, .slice none 0 0, .slice none 0 0, .string ⟨#[]⟩], .bool false]) ∧ Keep (fun _ => False) w w' := by
  have HR := Lib.hid h
  have HL := Lib.hid h.len
  have HN := Lib.hid hno
  clear h hno
  have K0 : Keep (fun _ => False) w (((w.alloc (.cells #[.int .i64 n, .slice a len cap] 54)).alloc (.cells #[.int .i64 0, .slice none 0 0] 54)).alloc (.cells #[.int .i64 0, .int .i64 0, .int .i64 0, .int .i64 0, .bool false, .int .u64 0, .slice none 0 0, .slice none 0 0, .string ⟨#[]⟩] 33)) := (((Keep.refl _ _).alloc _).alloc _).alloc _
  have B0 : Trio (((w.alloc (.cells #[.int .i64 n, .slice a len cap] 54)).alloc (.cells #[.int .i64 0, .slice none 0 0] 54)).alloc (.cells #[.int .i64 0, .int .i64 0, .int .i64 0, .int .i64 0, .bool false, .int .u64 0, .slice none 0 0, .slice none 0 0, .string ⟨#[]⟩] 33)) w.heap.size [.int .i64 n, .slice a len cap] [.int .i64 0, .slice none 0 0] [.int .i64 0, .int .i64 0, .int .i64 0, .int .i64 0, .bool false, .int .u64 0, .slice none 0 0, .slice none 0 0, .string ⟨#[]⟩] := Trio.new w [.int .i64 n, .slice a len cap] [.int .i64 0, .slice none 0 0] [.int .i64 0, .int .i64 0, .int .i64 0, .int .i64 0, .bool false, .int .u64 0, .slice none 0 0, .slice none 0 0, .string ⟨#[]⟩]
  go_enter Try.func29, Try.ntmps29
  go_wp2_with fail
  generalize (((w.alloc (.cells #[.int .i64 n, .slice a len cap] 54)).alloc (.cells #[.int .i64 0, .slice none 0 0] 54)).alloc (.cells #[.int .i64 0, .int .i64 0, .int .i64 0, .int .i64 0, .bool false, .int .u64 0, .slice none 0 0, .slice none 0 0, .string ⟨#[]⟩] 33)) = w0 at K0 B0 ⊢
  have t0 := B0.t.at (i := 0) rfl
  have t1 := B0.t.at (i := 1) rfl
  have KK := Lib.hid K0
  have BB := Lib.hid B0
  have R0 := Lib.hid (HR.out.keep K0 (fun _ _ h => h))
  clear K0 B0
  go_loopw [9] (fun i wr => ∃ (k : Nat), k ≤ len ∧ i = .int .i64 k ∧ wr = w0) (fun i _ => len - (intOf i).toNat)
  case atStart => exact ⟨0, Nat.zero_le _, rfl, rfl⟩
  case round =>
    obtain ⟨k, hk, rfl, rfl⟩ := hrel
    rcases (by omega : k < len ∨ k = len) with hlt | rfl
    · have hkl : (k : Int) < len := by omega
      obtain ⟨y, hy⟩ : ∃ y, zs[k]? = some y := ⟨_, List.getElem?_eq_getElem (by rw [HL.out]; omega)⟩
      have hny := HN.out k y hy
      obtain ⟨g, rfl, hi⟩ := R0.out.item hy
      obtain ⟨c0, c1, _⟩ := hi
      simp only [Nat.zero_add] at c0 c1
      obtain ⟨yf, yd, ym⟩ := y
      simp only [It.is] at hny
      clear hy
      by_cases h1 : yf = f
      · have h1b : (yf == f) = true := by rw [beq_iff_eq]; exact h1
        have h2b : (yd == t) = false := by rw [beq_eq_false_iff_ne]; exact fun h2 => hny ⟨h1, h2⟩
        clear h1 hny
        go_wp2_with fail
        go_roundw
        case rel => exact ⟨k + 1, by omega, by go_num, by simp⟩
        case measure => simp [intOf]; omega
      · have h1b : (yf == f) = false := by rw [beq_eq_false_iff_ne]; exact h1
        clear h1 hny
        go_wp2_with fail
        go_roundw
        case rel => exact ⟨k + 1, by omega, by go_num, by simp⟩
        case measure => simp [intOf]; omega
    · have r0 := BB.out.r.at (i := 0) rfl
      have r1 := BB.out.r.at (i := 1) rfl
      have fr := BB.out.r.free
      have n0 := BB.out.m.at (i := 0) rfl
      have n1 := BB.out.m.at (i := 1) rfl
      have n2 := BB.out.m.at (i := 2) rfl
      have n3 := BB.out.m.at (i := 3) rfl
      have n4 := BB.out.m.at (i := 4) rfl
      have n5 := BB.out.m.at (i := 5) rfl
      have n6 := BB.out.m.at (i := 6) rfl
      have n7 := BB.out.m.at (i := 7) rfl
      have n8 := BB.out.m.at (i := 8) rfl
      have fm := BB.out.m.free
      have ne7 : w.heap.size + 1 + 1 ≠ w.heap.size := by omega
      have ne8 : w.heap.size ≠ w.heap.size + 1 + 1 := by omega
      have ne9 : w.heap.size ≠ w.heap.size + 1 := by omega
      have ne10 : w.heap.size + 1 ≠ w.heap.size := by omega
      go_wp2_with fail
      have KE1 : ∀ (W : World) (o : Nat) (u : Value), Keep (fun k => k = w.heap.size + 1) W (W.setCell ⟨w.heap.size + 1, o, none⟩ u) := fun W o u => Keep.setCell (Keep.refl (fun k => k = w.heap.size + 1) W) (p := ⟨w.heap.size + 1, o, none⟩) (.inl rfl) u
      have KR := (KE1 wr 0 (.int .i64 n)).trans (KE1 _ 1 (.slice a k cap)) (fun _ h => .inl h)
      have BR := (BB.out.r.set 0 (.int .i64 n)).set 1 (.slice a k cap)
      obtain ⟨B9, KF⟩ := (BB.out.m.keep KR (by omega)).set9 (.int .i64 0) (.int .i64 0) (.int .i64 0) (.int .i64 0) (.bool false) (.int .u64 0) (.slice none 0 0) (.slice none 0 0) (.string ⟨#[]⟩)
      have BR9 := BR.keep KF (by omega)
      have q0 := BR9.at (i := 0) rfl
      have q1 := BR9.at (i := 1) rfl
      have q2 := B9.at (i := 0) rfl
      have q3 := B9.at (i := 1) rfl
      have q4 := B9.at (i := 2) rfl
      have q5 := B9.at (i := 3) rfl
      have q6 := B9.at (i := 4) rfl
      have q7 := B9.at (i := 5) rfl
      have q8 := B9.at (i := 6) rfl
      have q9 := B9.at (i := 7) rfl
      have q10 := B9.at (i := 8) rfl
      refine bodyPost_ret (v := .tuple #[.agg #[.int .i64 n, .slice a k cap], .agg #[.int .i64 0, .int .i64 0, .int .i64 0, .int .i64 0, .bool false, .int .u64 0, .slice none 0 0, .slice none 0 0, .string ⟨#[]⟩], .bool false]) (by simp [results, Try.results29, go_sem, q0, q1, q2, q3, q4, q5, q6, q7, q8, q9, q10]) rfl ⟨rfl, (KK.out.trans KR (fun _ e => .inr (by omega))).trans KF (fun _ e => .inr (by omega))⟩

end Go.Proofs.Ytgphlopbbmjdhaa
