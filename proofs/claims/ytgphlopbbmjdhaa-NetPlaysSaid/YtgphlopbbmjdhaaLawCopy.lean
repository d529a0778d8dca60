/- 'copied' of the laws: a message whose lists are its own, or nil. -/
import Derived.Test.YtgphlopbbmjdhaaDeep
namespace Go.Proofs.Ytgphlopbbmjdhaa
open Go.RowKit Go.Conc
set_option linter.unusedVariables false
set_option linter.unusedSimpArgs false

theorem owns_shape {w : World} {base size n : Nat} {e : TypeId} {v : Value} {xs : List Value} (h : w.ownsRow base e size v n xs) : ∃ a c, v = .slice a n c := by
  rcases h.2 with ⟨rfl, rfl⟩ | ⟨g, cap, cur, rfl, _⟩
  · exact ⟨_, _, rfl⟩
  · exact ⟨_, _, rfl⟩

theorem owns_ne {w : World} {base size n b : Nat} {e T : TypeId} {v : Value} {xs vs : List Value} (h : w.ownsRow base e size v n xs) (hb : Blk w b T vs) (ht : e ≠ T) {k : Nat} (hk : v.ownBlock = some k) : k ≠ b := by
  obtain ⟨cur, hc⟩ := owns_cells h hk
  exact ne_of_type hc hb ht

set_option maxHeartbeats 1000000 in
theorem lawCopied_any (m : Qm) (c : Cont) (w : World) (hm : Reads w m c) (hf : c.few) :
    Calls Try.prog 16 #[.agg #[.int .i64 m.kind, .int .i64 m.txn, .int .i64 m.page, .int .i64 m.dst, .bool m.fast, .int .u64 m.lsn, .slice m.wa m.wl m.wc, .slice m.pa m.pl m.pc, .string m.body]] w fun e w' =>
      ∃ y : Qm, e = .returned (.agg #[.int .i64 y.kind, .int .i64 y.txn, .int .i64 y.page, .int .i64 y.dst, .bool y.fast, .int .u64 y.lsn, .slice y.wa y.wl y.wc, .slice y.pa y.pl y.pc, .string y.body]) ∧ Keep (fun _ => False) w w' ∧ Holds w' w.heap.size y c := by
  obtain ⟨i0, hi, hz0, hz1, hz2⟩ := info_parts info67
  obtain ⟨i1, hj, hy0, hy1', hy2⟩ := info_parts info3
  have hl := hm.wl
  have hf1 := hf.1
  have hf2 := hf.2
  obtain ⟨mk, mt, mp, md, mf, ml, ad, lw, cw, ae, lp, cp, mb⟩ := m
  simp only at hl ⊢
  have HX : Hid (Src w ad lw cw 2 (wcells c.ws)) := hm.ws
  have HY : Hid (Src w ae lp cp 1 (pcells c.ps)) := hm.ps
  have HP := Lib.hid hm.plain
  obtain ⟨hl1, hl2⟩ := hl
  have hlw : lw ≤ 50 := by omega
  have hlp : lp ≤ 50 := by omega
  clear hm hl1 hl2 hf hf1 hf2
  have K3 : Hid (Keep (fun _ => False) w ((w.alloc (.cells #[.int .i64 mk, .int .i64 mt, .int .i64 mp, .int .i64 md, .bool mf, .int .u64 ml, .slice ad lw cw, .slice ae lp cp, .string mb] 33)).alloc (.cells #[.int .i64 0, .int .i64 0, .int .i64 0, .int .i64 0, .bool false, .int .u64 0, .slice none 0 0, .slice none 0 0, .string ⟨#[]⟩] 33))) := ((Keep.refl _ w).alloc _).alloc _
  go_enter Try.func16, Try.ntmps16
  go_wp2_with (at_builtin; refine wpList_append_src rfl _ _ 30 rfl w.heap.size 67 i0 (.agg #[.string ByteArray.empty, .int .i64 0]) 2 24 Try.underlying30 hi hz0 hz1 hz2 rfl (by decide) (.slice none 0 0) 0 [] rfl (World.ownsRow_nil _ _ _ _) ad lw cw (wcells c.ws) rfl ?_ (by unfold maxLen; omega) (by omega) (by simp; omega) ?_)
  · exact HX.out.keep K3.out (fun _ _ _ h => h)
  intro sw w1 hown hgrow
  obtain ⟨a1, c1, rfl⟩ := owns_shape hown
  have K1 : Keep (fun _ => False) w w1 := K3.out.grown hgrow (fun k hk => by simp [Value.ownBlock] at hk)
  have B1 : Blk w1 w.heap.size 33 [.int .i64 mk, .int .i64 mt, .int .i64 mp, .int .i64 md, .bool mf, .int .u64 ml, .slice ad lw cw, .slice ae lp cp, .string mb] :=
    (hgrow.block _ (by simp; omega) (by simp [Value.ownBlock])).trans ((Below.heap_alloc _ _ _ (by simp)).trans (heap_alloc_new _ _))
  have B2 : Blk w1 (w.heap.size + 1) 33 [.int .i64 0, .int .i64 0, .int .i64 0, .int .i64 0, .bool false, .int .u64 0, .slice none 0 0, .slice none 0 0, .string ⟨#[]⟩] :=
    (hgrow.block _ (by simp) (by simp [Value.ownBlock])).trans (by have := heap_alloc_new (w.alloc (.cells #[.int .i64 mk, .int .i64 mt, .int .i64 mp, .int .i64 md, .bool mf, .int .u64 ml, .slice ad lw cw, .slice ae lp cp, .string mb] 33)) (.cells #[.int .i64 0, .int .i64 0, .int .i64 0, .int .i64 0, .bool false, .int .u64 0, .slice none 0 0, .slice none 0 0, .string ⟨#[]⟩] 33); simpa using this)
  have N1 : ∀ j, (Value.slice a1 lw c1).ownBlock = some j → j ≠ w.heap.size ∧ j ≠ w.heap.size + 1 := fun j hj => ⟨owns_ne hown B1 (by decide) hj, owns_ne hown B2 (by decide) hj⟩
  have KK : Keep (fun k => k = w.heap.size) w1 (w1.setCell ⟨w.heap.size, 6, none⟩ (.slice a1 lw c1)) := Keep.setCell (Keep.refl (fun k => k = w.heap.size) w1) (p := ⟨w.heap.size, 6, none⟩) (.inl rfl) _
  have B3 := B1.set 6 (.slice a1 lw c1)
  have B4 := B2.keep KK (by omega)
  have O3 := owns_keep hown KK (fun j hj => (N1 j hj).1)
  have K4 := K1.trans KK (fun i e => by subst e; exact .inr (Nat.le_refl _))
  have hsz1 : w.heap.size + 2 ≤ w1.heap.size := by have := hgrow.size; simp at this; omega
  have c6 := B1.at (i := 6) rfl
  have f1 := B1.free
  have c7 := B3.at (i := 7) rfl
  have HB3 := Lib.hid B3
  have HB4 := Lib.hid B4
  have HO3 := Lib.hid O3
  have HK4 := Lib.hid K4
  have HN1 := Lib.hid N1
  clear B1 B2 B3 B4 O3 K4 KK K1 N1 hown hgrow
  go_wp2_with (at_builtin; refine wpList_append_src rfl _ _ 31 rfl w.heap.size 3 i1 (.int .i64 0) 1 8 Try.underlying31 hj hy0 hy1' hy2 rfl (by decide) (.slice none 0 0) 0 [] rfl (World.ownsRow_nil _ _ _ _) ae lp cp (pcells c.ps) rfl ?_ (by unfold maxLen; omega) (by omega) (by simp [World.setCell]; omega) ?_)
  · exact HY.out.keep HK4.out (fun _ _ _ h => h)
  intro sp w2 hown2 hgrow2
  obtain ⟨a2, c2, rfl⟩ := owns_shape hown2
  have KG : Keep (fun _ => False) (w1.setCell ⟨w.heap.size, 6, none⟩ (.slice a1 lw c1)) w2 := (Keep.refl _ _).grown hgrow2 (fun k hk => by simp [Value.ownBlock] at hk)
  have B5 := HB3.out.keep KG (fun h => h)
  have B6 := HB4.out.keep KG (fun h => h)
  have O5 := owns_keep HO3.out KG (fun _ _ h => h)
  have K5 := HK4.out.trans KG (fun i e => e.elim)
  have N2 : ∀ j, (Value.slice a2 lp c2).ownBlock = some j → j ≠ w.heap.size ∧ j ≠ w.heap.size + 1 := fun j hj => ⟨owns_ne hown2 B5 (by decide) hj, owns_ne hown2 B6 (by decide) hj⟩
  have KH : Keep (fun k => k = w.heap.size) w2 (w2.setCell ⟨w.heap.size, 7, none⟩ (.slice a2 lp c2)) := Keep.setCell (Keep.refl (fun k => k = w.heap.size) w2) (p := ⟨w.heap.size, 7, none⟩) (.inl rfl) _
  have B7 : Blk (w2.setCell ⟨w.heap.size, 7, none⟩ (.slice a2 lp c2)) w.heap.size 33 [.int .i64 mk, .int .i64 mt, .int .i64 mp, .int .i64 md, .bool mf, .int .u64 ml, .slice a1 lw c1, .slice a2 lp c2, .string mb] := B5.set 7 _
  have B8 := B6.keep KH (by omega)
  have O7 := owns_keep O5 KH (fun j hj => (HN1.out j hj).1)
  have O8 := owns_keep hown2 KH (fun j hj => (N2 j hj).1)
  have K7 := K5.trans KH (fun i e => by subst e; exact .inr (Nat.le_refl _))
  have p7 := B5.at (i := 7) rfl
  have f5 := B5.free
  have m0 := B7.at (i := 0) rfl
  have m1 := B7.at (i := 1) rfl
  have m2 := B7.at (i := 2) rfl
  have m3 := B7.at (i := 3) rfl
  have m4 := B7.at (i := 4) rfl
  have m5 := B7.at (i := 5) rfl
  have m6 := B7.at (i := 6) rfl
  have m7 := B7.at (i := 7) rfl
  have m8 := B7.at (i := 8) rfl
  have r0 := B8.at (i := 0) rfl
  have r1 := B8.at (i := 1) rfl
  have r2 := B8.at (i := 2) rfl
  have r3 := B8.at (i := 3) rfl
  have r4 := B8.at (i := 4) rfl
  have r5 := B8.at (i := 5) rfl
  have r6 := B8.at (i := 6) rfl
  have r7 := B8.at (i := 7) rfl
  have r8 := B8.at (i := 8) rfl
  have f8 := B8.free
  have HB8 := Lib.hid B8
  have HO7 := Lib.hid O7
  have HO8 := Lib.hid O8
  have HK7 := Lib.hid K7
  have HN2 := Lib.hid N2
  clear B5 B6 O5 K5 KG KH B7 B8 O7 O8 K7 hown2 hgrow2 HK4 HO3 HB3 HB4 N2
  go_wp2_with fail
  obtain ⟨B9, KF⟩ := HB8.out.set9 (.int .i64 mk) (.int .i64 mt) (.int .i64 mp) (.int .i64 md) (.bool mf) (.int .u64 ml) (.slice a1 lw c1) (.slice a2 lp c2) (.string mb)
  have q0 := B9.at (i := 0) rfl
  have q1 := B9.at (i := 1) rfl
  have q2 := B9.at (i := 2) rfl
  have q3 := B9.at (i := 3) rfl
  have q4 := B9.at (i := 4) rfl
  have q5 := B9.at (i := 5) rfl
  have q6 := B9.at (i := 6) rfl
  have q7 := B9.at (i := 7) rfl
  have q8 := B9.at (i := 8) rfl
  refine bodyPost_ret (v := .agg #[.int .i64 mk, .int .i64 mt, .int .i64 mp, .int .i64 md, .bool mf, .int .u64 ml, .slice a1 lw c1, .slice a2 lp c2, .string mb]) (by simp [results, Try.results16, go_sem, q0, q1, q2, q3, q4, q5, q6, q7, q8]) rfl ⟨⟨mk, mt, mp, md, mf, ml, a1, lw, c1, a2, lp, c2, mb⟩, rfl, HK7.out.trans KF (fun i e => .inr (by omega)), ⟨⟨HP.out.1, HP.out.2, HP.out.3, HP.out.4, HP.out.5, HP.out.6, HP.out.7⟩, owns_keep HO7.out KF (fun j hj => (HN1.out j hj).2), owns_keep HO8.out KF (fun j hj => (HN2.out j hj).2)⟩⟩

end Go.Proofs.Ytgphlopbbmjdhaa
