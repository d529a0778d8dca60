/- The copy of a message that the net makes: lists of its own, of the same cells. -/
import Derived.Test.YtgphlopbbmjdhaaRow
namespace Go.Proofs.Ytgphlopbbmjdhaa
open Go.RowKit
set_option linter.unusedVariables false
set_option linter.unusedSimpArgs false

theorem info67 : (Try.prog.info? 67).map (fun i => (i.zero, i.size, i.bytes)) = some (some (.agg #[.string ByteArray.empty, .int .i64 0]), 2, 24) := by kernel_rfl
theorem info3 : (Try.prog.info? 3).map (fun i => (i.zero, i.size, i.bytes)) = some (some (.int .i64 0), 1, 8) := by kernel_rfl

set_option maxHeartbeats 1000000 in
theorem copied_any (m : Qm) (ad ae : Option Addr) (lw lp cw cp : Nat) (xs ys : List Value) (w : World)
    (hx : Src w ad lw cw 2 xs) (hlw : lw ≤ 1000) (hy : Src w ae lp cp 1 ys) (hlp : lp ≤ 1000) :
    Calls Try.prog 26 #[.agg #[.int .i64 m.kind, .int .i64 m.txn, .int .i64 m.page, .int .i64 m.dst, .bool m.fast, .int .u64 m.lsn, .slice ad lw cw, .slice ae lp cp, .string m.body]] w fun e w' =>
      ∃ g1 c1 g2 c2, e = .returned (.agg #[.int .i64 m.kind, .int .i64 m.txn, .int .i64 m.page, .int .i64 m.dst, .bool m.fast, .int .u64 m.lsn, .slice (some ⟨g1, 0, none⟩) lw c1, .slice (some ⟨g2, 0, none⟩) lp c2, .string m.body]) ∧ Keep (fun _ => False) w w' ∧
        w'.ownsRow w.heap.size 67 2 (.slice (some ⟨g1, 0, none⟩) lw c1) lw xs ∧ w'.ownsRow w.heap.size 3 1 (.slice (some ⟨g2, 0, none⟩) lp c2) lp ys ∧ g1 ≠ g2 := by
  obtain ⟨i0, hi, hz0, hz1, hz2⟩ := info_parts info67
  obtain ⟨i1, hj, hy0, hy1', hy2⟩ := info_parts info3
  have HX := Lib.hid hx
  have HY := Lib.hid hy
  clear hx hy
  have K3 : Hid (Keep (fun _ => False) w (((w.alloc (.cells #[.int .i64 m.kind, .int .i64 m.txn, .int .i64 m.page, .int .i64 m.dst, .bool m.fast, .int .u64 m.lsn, .slice ad lw cw, .slice ae lp cp, .string m.body] 33)).alloc (.cells #[.int .i64 0, .int .i64 0, .int .i64 0, .int .i64 0, .bool false, .int .u64 0, .slice none 0 0, .slice none 0 0, .string ⟨#[]⟩] 33)).alloc (.cells #[] 67))) := (((Keep.refl _ w).alloc _).alloc _).alloc _
  go_enter Try.func26, Try.ntmps26
  go_wp2_with (at_builtin; refine wpList_append_src rfl _ _ 30 rfl w.heap.size 67 i0 (.agg #[.string ByteArray.empty, .int .i64 0]) 2 24 Try.underlying30 hi hz0 hz1 hz2 rfl (by decide) (.slice (some ⟨w.heap.size + 1 + 1, 0, none⟩) 0 0) 0 [] rfl ?_ ad lw cw xs rfl ?_ (by unfold maxLen; omega) (by omega) (by simp; omega) ?_)
  · have := World.ownsRow_made (base := w.heap.size) (e := 67) (size := 2) ((w.alloc (.cells #[.int .i64 m.kind, .int .i64 m.txn, .int .i64 m.page, .int .i64 m.dst, .bool m.fast, .int .u64 m.lsn, .slice ad lw cw, .slice ae lp cp, .string m.body] 33)).alloc (.cells #[.int .i64 0, .int .i64 0, .int .i64 0, .int .i64 0, .bool false, .int .u64 0, .slice none 0 0, .slice none 0 0, .string ⟨#[]⟩] 33)) #[] 0 (by simp; omega) (Nat.zero_le _) rfl
    simpa using this
  · exact HX.out.keep K3.out (fun _ _ _ h => h)
  intro sw w1 hown hgrow hnil
  obtain ⟨g1, cap1, rfl, hg1, hg1'⟩ := owns_some hown hnil
  clear hnil
  have O1 := Lib.hid hown
  have K1 : Hid (Keep (fun _ => False) w w1) := K3.out.grown hgrow (fun k hk => by simp [Value.ownBlock] at hk; omega)
  have B1 : Blk w1 w.heap.size 33 [.int .i64 m.kind, .int .i64 m.txn, .int .i64 m.page, .int .i64 m.dst, .bool m.fast, .int .u64 m.lsn, .slice ad lw cw, .slice ae lp cp, .string m.body] :=
    (hgrow.block _ (by simp; omega) (by simp [Value.ownBlock]; omega)).trans ((Below.heap_alloc _ _ _ (by simp; omega)).trans ((Below.heap_alloc _ _ _ (by simp)).trans (heap_alloc_new _ _)))
  have B2 : Blk w1 (w.heap.size + 1) 33 [.int .i64 0, .int .i64 0, .int .i64 0, .int .i64 0, .bool false, .int .u64 0, .slice none 0 0, .slice none 0 0, .string ⟨#[]⟩] :=
    (hgrow.block _ (by simp) (by simp [Value.ownBlock])).trans ((Below.heap_alloc _ _ _ (by simp)).trans (by have := heap_alloc_new (w.alloc (.cells #[.int .i64 m.kind, .int .i64 m.txn, .int .i64 m.page, .int .i64 m.dst, .bool m.fast, .int .u64 m.lsn, .slice ad lw cw, .slice ae lp cp, .string m.body] 33)) (.cells #[.int .i64 0, .int .i64 0, .int .i64 0, .int .i64 0, .bool false, .int .u64 0, .slice none 0 0, .slice none 0 0, .string ⟨#[]⟩] 33); simpa using this))
  have hsz1 : w.heap.size + 2 < w1.heap.size := by have := hgrow.size; simp at this; omega
  have hlt1 := hown.lt
  have hne1 : g1 ≠ w.heap.size ∧ g1 ≠ w.heap.size + 1 := by
    have hh := hown.2
    rcases hh with ⟨h, _⟩ | ⟨g, cap, cur, h, _, hg, _⟩
    · simp at h
    · simp only [Value.slice.injEq, Option.some.injEq, Addr.mk.injEq, and_true, true_and] at h
      obtain ⟨rfl, rfl⟩ := h
      refine ⟨fun e => ?_, fun e => ?_⟩
      · rw [e] at hg; unfold Blk at B1; rw [B1] at hg; simp at hg
      · rw [e] at hg; unfold Blk at B2; rw [B2] at hg; simp at hg
  clear hown hgrow
  have KK : Keep (fun k => k = w.heap.size) w1 ((w1.setCell ⟨w.heap.size, 6, none⟩ (.slice (some ⟨g1, 0, none⟩) lw cap1)).alloc (.cells #[] 3)) := (Keep.setCell (Keep.refl (fun k => k = w.heap.size) w1) (p := ⟨w.heap.size, 6, none⟩) (.inl rfl) _).alloc _
  have B3 : Blk ((w1.setCell ⟨w.heap.size, 6, none⟩ (.slice (some ⟨g1, 0, none⟩) lw cap1)).alloc (.cells #[] 3)) w.heap.size 33 [.int .i64 m.kind, .int .i64 m.txn, .int .i64 m.page, .int .i64 m.dst, .bool m.fast, .int .u64 m.lsn, .slice (some ⟨g1, 0, none⟩) lw cap1, .slice ae lp cp, .string m.body] :=
    (B1.set 6 _).keep ((Keep.refl (fun _ => False) _).alloc _) (fun h => h)
  have B4 := B2.keep KK (by omega)
  have O3 := owns_keep O1.out KK (by simp [Value.ownBlock]; omega)
  have K3 := K1.out.trans KK (fun i e => by subst e; exact .inr (Nat.le_refl _))
  have c6 := B1.at (i := 6) rfl
  have f1 := B1.free
  have c7 := B3.at (i := 7) rfl
  have HB3 := Lib.hid B3
  have HB4 := Lib.hid B4
  have HO3 := Lib.hid O3
  have HK3 := Lib.hid K3
  clear B1 B2 B3 B4 O3 K3 KK
  go_wp2_with (at_builtin; refine wpList_append_src rfl _ _ 31 rfl w.heap.size 3 i1 (.int .i64 0) 1 8 Try.underlying31 hj hy0 hy1' hy2 rfl (by decide) (.slice (some ⟨w1.heap.size, 0, none⟩) 0 0) 0 [] rfl ?_ ae lp cp ys rfl ?_ (by unfold maxLen; omega) (by omega) (by simp [World.setCell]; omega) ?_)
  · have := World.ownsRow_made (base := w.heap.size) (e := 3) (size := 1) (w1.setCell ⟨w.heap.size, 6, none⟩ (.slice (some ⟨g1, 0, none⟩) lw cap1)) #[] 0 (by simp [World.setCell]; omega) (Nat.zero_le _) rfl
    simpa [World.setCell] using this
  · exact HY.out.keep HK3.out (fun _ _ _ h => h)
  intro sp w2 hown2 hgrow2 hnil2
  obtain ⟨g2, cap2, rfl, hg2, hg2'⟩ := owns_some hown2 hnil2
  clear hnil2
  obtain ⟨cur2, hb2⟩ := owns_blk hown2
  have hn : some (w1.heap.size) = (Value.slice (some ⟨w1.heap.size, 0, none⟩) 0 0).ownBlock := rfl
  have hsz3 : w1.heap.size < w2.heap.size := by have := hgrow2.size; simp [World.setCell] at this; omega
  have hlt1 : g1 < w1.heap.size := hg1'
  have KG : Keep (fun k => k = w1.heap.size) ((w1.setCell ⟨w.heap.size, 6, none⟩ (.slice (some ⟨g1, 0, none⟩) lw cap1)).alloc (.cells #[] 3)) w2 :=
    (Keep.refl _ _).grown hgrow2 (fun k hk => by simp [Value.ownBlock] at hk; exact .inl hk.symm)
  have B5 := HB3.out.keep KG (by omega)
  have B6 := HB4.out.keep KG (by omega)
  have O5 := owns_keep HO3.out KG (by simp [Value.ownBlock]; omega)
  have K5 := HK3.out.trans KG (fun i e => by subst e; exact .inr (by omega))
  obtain ⟨cur1, hb1⟩ := owns_blk O5
  have n1 : g2 ≠ w.heap.size := ne_of_type hb2 B5 (by decide)
  have n2 : g2 ≠ w.heap.size + 1 := ne_of_type hb2 B6 (by decide)
  have n3 : g1 ≠ w.heap.size := ne_of_type hb1 B5 (by decide)
  have n4 : g1 ≠ w.heap.size + 1 := ne_of_type hb1 B6 (by decide)
  have n5 : g1 ≠ g2 := ne_of_type hb1 hb2 (by decide)
  have KH : Keep (fun k => k = w.heap.size) w2 (w2.setCell ⟨w.heap.size, 7, none⟩ (.slice (some ⟨g2, 0, none⟩) lp cap2)) := Keep.setCell (Keep.refl (fun k => k = w.heap.size) w2) (p := ⟨w.heap.size, 7, none⟩) (.inl rfl) _
  have B7 : Blk (w2.setCell ⟨w.heap.size, 7, none⟩ (.slice (some ⟨g2, 0, none⟩) lp cap2)) w.heap.size 33 [.int .i64 m.kind, .int .i64 m.txn, .int .i64 m.page, .int .i64 m.dst, .bool m.fast, .int .u64 m.lsn, .slice (some ⟨g1, 0, none⟩) lw cap1, .slice (some ⟨g2, 0, none⟩) lp cap2, .string m.body] := B5.set 7 _
  have B8 := B6.keep KH (by omega)
  have O7 := owns_keep O5 KH (by simp [Value.ownBlock]; omega)
  have O8 := owns_keep hown2 KH (by simp [Value.ownBlock]; omega)
  have K7 := K5.trans KH (fun i e => by subst e; exact .inr (Nat.le_refl _))
  have p7 := B5.at (i := 7) rfl
  have f5 := B5.free
  have m0 := B7.at (i := 0) rfl
  have m1 := B7.at (i := 1) rfl
  have m2 := B7.at (i := 2) rfl
  have m3 := B7.at (i := 3) rfl
  have m4 := B7.at (i := 4) rfl
  have m5 := B7.at (i := 5) rfl
  have m6 := B7.at (i := 6) rfl
  have m7 := B7.at (i := 7) rfl
  have m8 := B7.at (i := 8) rfl
  have r0 := B8.at (i := 0) rfl
  have r1 := B8.at (i := 1) rfl
  have r2 := B8.at (i := 2) rfl
  have r3 := B8.at (i := 3) rfl
  have r4 := B8.at (i := 4) rfl
  have r5 := B8.at (i := 5) rfl
  have r6 := B8.at (i := 6) rfl
  have r7 := B8.at (i := 7) rfl
  have r8 := B8.at (i := 8) rfl
  have f8 := B8.free
  have HB8 := Lib.hid B8
  have HO7 := Lib.hid O7
  have HO8 := Lib.hid O8
  have HK7 := Lib.hid K7
  clear B5 B6 O5 K5 KG KH B7 B8 O7 O8 K7 hb1 hb2 hown2 hgrow2 hn HK3 HO3 HB3 HB4 O1 K1
  go_wp2_with fail
  have B9 := ((((((((HB8.out.set 0 (.int .i64 m.kind)).set 1 (.int .i64 m.txn)).set 2 (.int .i64 m.page)).set 3 (.int .i64 m.dst)).set 4 (.bool m.fast)).set 5 (.int .u64 m.lsn)).set 6 (.slice (some ⟨g1, 0, none⟩) lw cap1)).set 7 (.slice (some ⟨g2, 0, none⟩) lp cap2)).set 8 (.string m.body)
  have KE : ∀ (W : World) (o : Nat) (u : Value), Keep (fun k => k = w.heap.size + 1) W (W.setCell ⟨w.heap.size + 1, o, none⟩ u) := fun W o u => Keep.setCell (Keep.refl (fun k => k = w.heap.size + 1) W) (p := ⟨w.heap.size + 1, o, none⟩) (.inl rfl) u
  have KF := ((((((((KE _ 0 (.int .i64 m.kind)).trans (KE _ 1 (.int .i64 m.txn)) (fun _ h => .inl h)).trans (KE _ 2 (.int .i64 m.page)) (fun _ h => .inl h)).trans (KE _ 3 (.int .i64 m.dst)) (fun _ h => .inl h)).trans (KE _ 4 (.bool m.fast)) (fun _ h => .inl h)).trans (KE _ 5 (.int .u64 m.lsn)) (fun _ h => .inl h)).trans (KE _ 6 (.slice (some ⟨g1, 0, none⟩) lw cap1)) (fun _ h => .inl h)).trans (KE _ 7 (.slice (some ⟨g2, 0, none⟩) lp cap2)) (fun _ h => .inl h)).trans (KE (((((((((w2.setCell ⟨w.heap.size, 7, none⟩ (.slice (some ⟨g2, 0, none⟩) lp cap2)).setCell ⟨w.heap.size + 1, 0, none⟩ (.int .i64 m.kind)).setCell ⟨w.heap.size + 1, 1, none⟩ (.int .i64 m.txn)).setCell ⟨w.heap.size + 1, 2, none⟩ (.int .i64 m.page)).setCell ⟨w.heap.size + 1, 3, none⟩ (.int .i64 m.dst)).setCell ⟨w.heap.size + 1, 4, none⟩ (.bool m.fast)).setCell ⟨w.heap.size + 1, 5, none⟩ (.int .u64 m.lsn)).setCell ⟨w.heap.size + 1, 6, none⟩ (.slice (some ⟨g1, 0, none⟩) lw cap1)).setCell ⟨w.heap.size + 1, 7, none⟩ (.slice (some ⟨g2, 0, none⟩) lp cap2)) 8 (.string m.body)) (fun _ h => .inl h)
  have q0 := B9.at (i := 0) rfl
  have q1 := B9.at (i := 1) rfl
  have q2 := B9.at (i := 2) rfl
  have q3 := B9.at (i := 3) rfl
  have q4 := B9.at (i := 4) rfl
  have q5 := B9.at (i := 5) rfl
  have q6 := B9.at (i := 6) rfl
  have q7 := B9.at (i := 7) rfl
  have q8 := B9.at (i := 8) rfl
  refine bodyPost_ret (v := .agg #[.int .i64 m.kind, .int .i64 m.txn, .int .i64 m.page, .int .i64 m.dst, .bool m.fast, .int .u64 m.lsn, .slice (some ⟨g1, 0, none⟩) lw cap1, .slice (some ⟨g2, 0, none⟩) lp cap2, .string m.body]) (by simp [results, Try.results26, go_sem, q0, q1, q2, q3, q4, q5, q6, q7, q8]) rfl ⟨_, _, _, _, rfl, HK7.out.trans KF (fun i e => .inr (by omega)), owns_keep HO7.out KF (by simp [Value.ownBlock]; omega), owns_keep HO8.out KF (by simp [Value.ownBlock]; omega), n5⟩

end Go.Proofs.Ytgphlopbbmjdhaa
