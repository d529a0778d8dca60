/- 'copied' of the program: a record's lists are its own behind it. -/
import Derived.Test.YthgkhhgabpebmaaRec
namespace Go.Proofs.Ythgkhhgabpebmaa
open Go.RowKit
set_option linter.unusedVariables false
set_option linter.unusedSimpArgs false

/-- A record whose lists are its own. -/
structure Holds (w : World) (base : Nat) (x : Rq) (c : RC) : Prop where
  plain : Plain x c
  ts : w.ownsRow base 63 3 (.slice x.ta x.tl x.tc) x.tl (tcells c.ts)
  ds : w.ownsRow base 65 2 (.slice x.da x.dl x.dc) x.dl (dcells c.ds)

def Rq.has (x : Rq) (b : Nat) : Prop := (Value.slice x.ta x.tl x.tc).ownBlock = some b ∨ (Value.slice x.da x.dl x.dc).ownBlock = some b

def RC.few (c : RC) : Prop := c.ts.length ≤ 1000 ∧ c.ds.length ≤ 1000

theorem Holds.reads {w : World} {base : Nat} {x : Rq} {c : RC} (h : Holds w base x c) : Reads w x c := ⟨h.plain, owns_src h.ts (tcells_one _), owns_src h.ds (dcells_one _)⟩

theorem Holds.keep {S : Nat → Prop} {w w' : World} {base : Nat} {x : Rq} {c : RC} (h : Holds w base x c) (k : Keep S w w') (hS : ∀ b, x.has b → ¬ S b) : Holds w' base x c :=
  ⟨h.plain, owns_keep h.ts k (fun j hj => hS _ (.inl hj)), owns_keep h.ds k (fun j hj => hS _ (.inr hj))⟩

theorem Holds.lt {w : World} {base : Nat} {x : Rq} {c : RC} (h : Holds w base x c) {b : Nat} (hb : x.has b) : base ≤ b ∧ b < w.heap.size := by
  rcases hb with hb | hb
  · exact h.ts.lt _ hb
  · exact h.ds.lt _ hb

theorem Holds.base {w : World} {base base' : Nat} {x : Rq} {c : RC} (h : Holds w base x c) (hb : base' ≤ base) : Holds w base' x c := ⟨h.plain, owns_base h.ts hb, owns_base h.ds hb⟩

/-- Its lists lie in blocks of their kinds. -/
theorem Holds.kind {w : World} {base : Nat} {x : Rq} {c : RC} (h : Holds w base x c) {b : Nat} (hb : x.has b) : ∃ cur T, w.heap[b]? = some (.cells cur T (0, 0)) ∧ (T = 63 ∨ T = 65) := by
  rcases hb with hb | hb
  · obtain ⟨cur, hc⟩ := owns_cells h.ts hb; exact ⟨cur, 63, hc, .inl rfl⟩
  · obtain ⟨cur, hc⟩ := owns_cells h.ds hb; exact ⟨cur, 65, hc, .inr rfl⟩

theorem Holds.apart {w : World} {base : Nat} {x : Rq} {c : RC} (h : Holds w base x c) {b g : Nat} (hb : x.has b) {cur : Array Value} {T : Nat} (hg : w.heap[g]? = some (.cells cur T (0, 0))) (h1 : T ≠ 63) (h2 : T ≠ 65) : b ≠ g := by
  obtain ⟨cur', T', hc, hT⟩ := h.kind hb
  intro e
  subst e
  rw [hg] at hc
  simp at hc
  rcases hT with rfl | rfl
  · exact h1 hc.2
  · exact h2 hc.2

theorem set_rec {w : World} {b T : Nat} {u0 u1 u2 u3 u4 u5 u6 u7 u8 u9 u10 u11 : Value} (h : Blk w b T [u0, u1, u2, u3, u4, u5, u6, u7, u8, u9, u10, u11]) (v0 v1 v2 v3 v4 v5 v6 v7 v8 v9 v10 v11 : Value) :
    Blk ((((((((((((w.setCell ⟨b, 0, none⟩ v0).setCell ⟨b, 1, none⟩ v1).setCell ⟨b, 2, none⟩ v2).setCell ⟨b, 3, none⟩ v3).setCell ⟨b, 4, none⟩ v4).setCell ⟨b, 5, none⟩ v5).setCell ⟨b, 6, none⟩ v6).setCell ⟨b, 7, none⟩ v7).setCell ⟨b, 8, none⟩ v8).setCell ⟨b, 9, none⟩ v9).setCell ⟨b, 10, none⟩ v10).setCell ⟨b, 11, none⟩ v11) b T [v0, v1, v2, v3, v4, v5, v6, v7, v8, v9, v10, v11] ∧ Keep (fun k => k = b) w ((((((((((((w.setCell ⟨b, 0, none⟩ v0).setCell ⟨b, 1, none⟩ v1).setCell ⟨b, 2, none⟩ v2).setCell ⟨b, 3, none⟩ v3).setCell ⟨b, 4, none⟩ v4).setCell ⟨b, 5, none⟩ v5).setCell ⟨b, 6, none⟩ v6).setCell ⟨b, 7, none⟩ v7).setCell ⟨b, 8, none⟩ v8).setCell ⟨b, 9, none⟩ v9).setCell ⟨b, 10, none⟩ v10).setCell ⟨b, 11, none⟩ v11) := by
  have KE : ∀ (W : World) (o : Nat) (u : Value), Keep (fun k => k = b) W (W.setCell ⟨b, o, none⟩ u) := fun W o u => Keep.setCell (Keep.refl (fun k => k = b) W) (p := ⟨b, o, none⟩) (.inl rfl) u
  exact ⟨((((((((((((h.set 0 v0).set 1 v1).set 2 v2).set 3 v3).set 4 v4).set 5 v5).set 6 v6).set 7 v7).set 8 v8).set 9 v9).set 10 v10).set 11 v11), ((((((((((((KE _ 0 v0).trans (KE _ 1 v1) (fun _ h => .inl h)).trans (KE _ 2 v2) (fun _ h => .inl h)).trans (KE _ 3 v3) (fun _ h => .inl h)).trans (KE _ 4 v4) (fun _ h => .inl h)).trans (KE _ 5 v5) (fun _ h => .inl h)).trans (KE _ 6 v6) (fun _ h => .inl h)).trans (KE _ 7 v7) (fun _ h => .inl h)).trans (KE _ 8 v8) (fun _ h => .inl h)).trans (KE _ 9 v9) (fun _ h => .inl h)).trans (KE _ 10 v10) (fun _ h => .inl h)).trans (KE _ 11 v11) (fun _ h => .inl h))⟩

set_option maxHeartbeats 2000000 in
set_option maxRecDepth 100000 in
theorem copied_any (x : Rq) (c : RC) (w : World) (hr : Reads w x c) (hf : c.few) :
    Calls Try.prog 33 #[.agg #[.int .i64 x.kind, .int .u64 x.lsn, .int .i64 x.txn, .int .u64 x.prev, .int .u64 x.undo, .int .i64 x.page, .int .i64 x.ak, .string x.akey, .string x.aold, .string x.anew, .slice x.ta x.tl x.tc, .slice x.da x.dl x.dc]] w fun e w' =>
      ∃ y : Rq, e = .returned (.agg #[.int .i64 y.kind, .int .u64 y.lsn, .int .i64 y.txn, .int .u64 y.prev, .int .u64 y.undo, .int .i64 y.page, .int .i64 y.ak, .string y.akey, .string y.aold, .string y.anew, .slice y.ta y.tl y.tc, .slice y.da y.dl y.dc]) ∧ Keep (fun _ => False) w w' ∧ Holds w' w.heap.size y c := by
  obtain ⟨i0, hi0, hz0, hz1, hz2⟩ := info_parts info63
  obtain ⟨i1, hi1, hy0, hy1, hy2⟩ := info_parts info65
  have hl := hr.len
  have hl1 : x.tl ≤ 1000 := by have := hf.1; omega
  have hl2 : x.dl ≤ 1000 := by have := hf.2; omega
  have HT := Lib.hid hr.ts
  have HD := Lib.hid hr.ds
  have HP := Lib.hid hr.plain
  clear hr hf hl
  go_enter Try.func33, Try.ntmps33
  go_upto_region 1 with fail
  have B0 := new_two w 59 59 [.int .i64 x.kind, .int .u64 x.lsn, .int .i64 x.txn, .int .u64 x.prev, .int .u64 x.undo, .int .i64 x.page, .int .i64 x.ak, .string x.akey, .string x.aold, .string x.anew, .slice x.ta x.tl x.tc, .slice x.da x.dl x.dc] [.int .i64 0, .int .u64 0, .int .i64 0, .int .u64 0, .int .u64 0, .int .i64 0, .int .i64 0, .string ⟨#[]⟩, .string ⟨#[]⟩, .string ⟨#[]⟩, .slice none 0 0, .slice none 0 0]
  generalize (w.alloc (.cells #[.int .i64 x.kind, .int .u64 x.lsn, .int .i64 x.txn, .int .u64 x.prev, .int .u64 x.undo, .int .i64 x.page, .int .i64 x.ak, .string x.akey, .string x.aold, .string x.anew, .slice x.ta x.tl x.tc, .slice x.da x.dl x.dc] 59)).alloc (.cells #[.int .i64 0, .int .u64 0, .int .i64 0, .int .u64 0, .int .u64 0, .int .i64 0, .int .i64 0, .string ⟨#[]⟩, .string ⟨#[]⟩, .string ⟨#[]⟩, .slice none 0 0, .slice none 0 0] 59) = w3 at B0 ⊢
  have A3 := Lib.hid B0.1
  have Z3 := Lib.hid B0.2.1
  have K3 := Lib.hid B0.2.2
  clear B0
  have a10 := A3.out.at (i := 10) rfl
  have n1 : w.heap.size ≠ w3.heap.size := by have := A3.out.lt; omega
  have n2 : w3.heap.size ≠ w.heap.size := Ne.symm n1
  have KA : Hid (Keep (fun _ => False) w3 (w3.alloc (.cells #[] 63))) := (Keep.refl _ _).alloc _
  have a10' := KA.out.got a10 (fun h => h)
  have M3 : Hid ((w3.alloc (.cells #[] 63)).ownsRow w.heap.size 63 3 (.slice (some ⟨w3.heap.size, 0, none⟩) 0 0) 0 []) := World.ownsRow_made w3 #[] 0 (by have := K3.out.size; omega) (Nat.zero_le _) rfl
  go_wp2_with (at_builtin; refine wpList_append_src rfl _ _ 56 rfl w.heap.size 63 i0 (.agg #[.int .i64 0, .int .i64 0, .int .u64 0]) 3 24 Try.underlying56 hi0 hz0 hz1 hz2 rfl (by decide) (.slice (some ⟨w3.heap.size, 0, none⟩) 0 0) 0 [] rfl ?_ x.ta x.tl x.tc (tcells c.ts) rfl ?_ (by unfold maxLen; omega) (by omega) ?_ ?_)
  · exact M3.out
  · exact (HT.out.keep K3.out (fun _ _ _ h => h)).keep KA.out (fun _ _ _ h => h)
  · have := (K3.out.none_trans KA.out).size; omega
  intro v1 w4 hown hgrow hne
  obtain ⟨a1, c1, rfl⟩ := owns_shape hown
  have K4 : Hid (Keep (fun _ => False) w3 w4) := KA.out.grown hgrow (fun k hk => by simp [Value.ownBlock] at hk; exact .inr (by omega))
  have A4 := A3.out.keep K4.out (fun h => h)
  have Z4 := Z3.out.keep K4.out (fun h => h)
  have b10 := A4.at (i := 10) rfl
  have fr := A4.free
  have A5 := A4.set 10 (.slice a1 x.tl c1)
  have k5 : Keep (fun b => b = w.heap.size) w4 (w4.setCell ⟨w.heap.size, 10, none⟩ (.slice a1 x.tl c1)) := Keep.setCell (Keep.refl (fun b => b = w.heap.size) w4) (p := ⟨w.heap.size, 10, none⟩) (.inl rfl) _
  have Z5 := Lib.hid (Z4.keep k5 (by omega))
  have T5 := Lib.hid (owns_keep hown k5 (fun j hj e => owns_ne hown A4 (by decide) hj e))
  have K5 := Lib.hid ((K3.out.none_trans K4.out).trans k5 (fun i e => .inr (by omega)))
  have HA5 := Lib.hid A5
  clear hgrow hne K4 A4 Z4 k5 KA M3 a10 a10' A5 hown K3
  go_upto_region 2 with fail
  generalize w4.setCell ⟨w.heap.size, 10, none⟩ (.slice a1 x.tl c1) = w5 at Z5 T5 K5 HA5 ⊢
  clear b10 fr
  clear n1 n2
  have a11 := HA5.out.at (i := 11) rfl
  have n1 : w.heap.size ≠ w5.heap.size := by have := HA5.out.lt; omega
  have n2 : w5.heap.size ≠ w.heap.size := Ne.symm n1
  have KA : Hid (Keep (fun _ => False) w5 (w5.alloc (.cells #[] 65))) := (Keep.refl _ _).alloc _
  have a11' := KA.out.got a11 (fun h => h)
  have M5 : Hid ((w5.alloc (.cells #[] 65)).ownsRow w.heap.size 65 2 (.slice (some ⟨w5.heap.size, 0, none⟩) 0 0) 0 []) := World.ownsRow_made w5 #[] 0 (by have := K5.out.size; omega) (Nat.zero_le _) rfl
  go_wp2_with (at_builtin; refine wpList_append_src rfl _ _ 57 rfl w.heap.size 65 i1 (.agg #[.int .i64 0, .int .u64 0]) 2 16 Try.underlying57 hi1 hy0 hy1 hy2 rfl (by decide) (.slice (some ⟨w5.heap.size, 0, none⟩) 0 0) 0 [] rfl ?_ x.da x.dl x.dc (dcells c.ds) rfl ?_ (by unfold maxLen; omega) (by omega) ?_ ?_)
  · exact M5.out
  · exact (HD.out.keep K5.out (fun _ _ _ h => h)).keep KA.out (fun _ _ _ h => h)
  · have := (K5.out.none_trans KA.out).size; omega
  intro v2 w6 hown hgrow hne
  obtain ⟨a2, c2, rfl⟩ := owns_shape hown
  have K6 : Hid (Keep (fun _ => False) w5 w6) := KA.out.grown hgrow (fun k hk => by simp [Value.ownBlock] at hk; exact .inr (by omega))
  have A6 := HA5.out.keep K6.out (fun h => h)
  have Z6 := Z5.out.keep K6.out (fun h => h)
  have T6 := owns_keep T5.out K6.out (fun _ _ h => h)
  have b11 := A6.at (i := 11) rfl
  have fr := A6.free
  have A7 : Blk (w6.setCell ⟨w.heap.size, 11, none⟩ (.slice a2 x.dl c2)) w.heap.size 59 [.int .i64 x.kind, .int .u64 x.lsn, .int .i64 x.txn, .int .u64 x.prev, .int .u64 x.undo, .int .i64 x.page, .int .i64 x.ak, .string x.akey, .string x.aold, .string x.anew, .slice a1 x.tl c1, .slice a2 x.dl c2] := A6.set 11 (.slice a2 x.dl c2)
  have k7 : Keep (fun b => b = w.heap.size) w6 (w6.setCell ⟨w.heap.size, 11, none⟩ (.slice a2 x.dl c2)) := Keep.setCell (Keep.refl (fun b => b = w.heap.size) w6) (p := ⟨w.heap.size, 11, none⟩) (.inl rfl) _
  have Z7 := Lib.hid (Z6.keep k7 (by omega))
  have T7 := Lib.hid (owns_keep T6 k7 (fun j hj e => owns_ne T6 A6 (by decide) hj e))
  have D7 := Lib.hid (owns_keep hown k7 (fun j hj e => owns_ne hown A6 (by decide) hj e))
  have K7 := Lib.hid ((K5.out.none_trans K6.out).trans k7 (fun i e => .inr (by omega)))
  have HA7 := Lib.hid A7
  clear hgrow hne K6 A6 Z6 k7 KA M5 a11 a11' A7 hown T6 Z5 T5 K5 HA5
  go_upto_region 3 with fail
  generalize w6.setCell ⟨w.heap.size, 11, none⟩ (.slice a2 x.dl c2) = w7 at Z7 T7 D7 K7 HA7 ⊢
  clear b11 fr
  have ea0 := HA7.out.at (i := 0) rfl
  have ea1 := HA7.out.at (i := 1) rfl
  have ea2 := HA7.out.at (i := 2) rfl
  have ea3 := HA7.out.at (i := 3) rfl
  have ea4 := HA7.out.at (i := 4) rfl
  have ea5 := HA7.out.at (i := 5) rfl
  have ea6 := HA7.out.at (i := 6) rfl
  have ea7 := HA7.out.at (i := 7) rfl
  have ea8 := HA7.out.at (i := 8) rfl
  have ea9 := HA7.out.at (i := 9) rfl
  have ea10 := HA7.out.at (i := 10) rfl
  have ea11 := HA7.out.at (i := 11) rfl
  have z0 := Z7.out.at (i := 0) rfl
  have z1 := Z7.out.at (i := 1) rfl
  have z2 := Z7.out.at (i := 2) rfl
  have z3 := Z7.out.at (i := 3) rfl
  have z4 := Z7.out.at (i := 4) rfl
  have z5 := Z7.out.at (i := 5) rfl
  have z6 := Z7.out.at (i := 6) rfl
  have z7 := Z7.out.at (i := 7) rfl
  have z8 := Z7.out.at (i := 8) rfl
  have z9 := Z7.out.at (i := 9) rfl
  have z10 := Z7.out.at (i := 10) rfl
  have z11 := Z7.out.at (i := 11) rfl
  have fz := Z7.out.free
  have BR := set_rec Z7.out (.int .i64 x.kind) (.int .u64 x.lsn) (.int .i64 x.txn) (.int .u64 x.prev) (.int .u64 x.undo) (.int .i64 x.page) (.int .i64 x.ak) (.string x.akey) (.string x.aold) (.string x.anew) (.slice a1 x.tl c1) (.slice a2 x.dl c2)
  have q0 := BR.1.at (i := 0) rfl
  have q1 := BR.1.at (i := 1) rfl
  have q2 := BR.1.at (i := 2) rfl
  have q3 := BR.1.at (i := 3) rfl
  have q4 := BR.1.at (i := 4) rfl
  have q5 := BR.1.at (i := 5) rfl
  have q6 := BR.1.at (i := 6) rfl
  have q7 := BR.1.at (i := 7) rfl
  have q8 := BR.1.at (i := 8) rfl
  have q9 := BR.1.at (i := 9) rfl
  have q10 := BR.1.at (i := 10) rfl
  have q11 := BR.1.at (i := 11) rfl
  have T8 := Lib.hid (owns_keep T7.out BR.2 (fun j hj e => owns_ne T7.out Z7.out (by decide) hj e))
  have D8 := Lib.hid (owns_keep D7.out BR.2 (fun j hj e => owns_ne D7.out Z7.out (by decide) hj e))
  have K8 := Lib.hid (K7.out.trans BR.2 (fun i e => .inr (by omega)))
  clear BR
  go_wp2_with fail
  refine bodyPost_ret (v := .agg #[.int .i64 x.kind, .int .u64 x.lsn, .int .i64 x.txn, .int .u64 x.prev, .int .u64 x.undo, .int .i64 x.page, .int .i64 x.ak, .string x.akey, .string x.aold, .string x.anew, .slice a1 x.tl c1, .slice a2 x.dl c2]) (by simp [results, Try.results33, go_sem, q0, q1, q2, q3, q4, q5, q6, q7, q8, q9, q10, q11]) rfl ⟨⟨x.kind, x.lsn, x.txn, x.prev, x.undo, x.page, x.ak, x.akey, x.aold, x.anew, a1, x.tl, c1, a2, x.dl, c2⟩, rfl, K8.out, ⟨⟨HP.out.1, HP.out.2, HP.out.3, HP.out.4, HP.out.5, HP.out.6, HP.out.7, HP.out.8, HP.out.9, HP.out.10⟩, T8.out, D8.out⟩⟩

end Go.Proofs.Ythgkhhgabpebmaa
