/- Take of the net: out of a row that holds something, out of an empty one, where there is none, of a nil net. -/
import Derived.Test.YtgphlopbbmjdhaaSend
namespace Go.Proofs.Ytgphlopbbmjdhaa
open Go.RowKit Go.Conc
set_option linter.unusedVariables false
set_option linter.unusedSimpArgs false

set_option maxHeartbeats 1000000 in
theorem take_some (L : Lay) (q : Nat → List Qm) (f t : Int) (i : Nat) (x : Qm) (rest : List Qm) (w : World) (h : NetAt w L q) (hr : rowIx L.n f t = some i) (hq : q i = x :: rest) :
    Calls Try.prog 13 #[.pointer (some ⟨L.b, 0, none⟩), .int .i64 f, .int .i64 t] w fun e w' =>
      e = .returned (.tuple #[.agg #[.int .i64 x.kind, .int .i64 x.txn, .int .i64 x.page, .int .i64 x.dst, .bool x.fast, .int .u64 x.lsn, .slice x.wa x.wl x.wc, .slice x.pa x.pl x.pc, .string x.body], .bool true]) ∧ NetAt w' L (put q i rest) ∧ Keep (fun k => k = L.c i) w w' := by
  have hi := rowIx_lt hr
  have HR := Lib.hid (fun w h => row_some L q f t i w h hr)
  have H := Lib.hid h
  have H0 := Lib.hid h
  have HQ := Lib.hid hq
  clear h hr hq
  refine callsN Try.func13 rfl ?_
  simp only [Try.ntmps13, List.size_toArray, List.length_cons, List.length_nil, Nat.reduceAdd, Nat.reduceSub, Array.replicate_succ, Array.replicate_zero, List.push_toArray, List.append_toArray, List.nil_append, List.cons_append]
  refine CodeN.seq_k (fun K hK => ?_)
  go_wp2_with fail
  refine CodeN.seq_k (fun K hK => ?_)
  go_wp2_with fail
  refine (HR.out _ (H.out.keep ((Keep.refl (fun _ => False) _).alloc _) (fun _ _ h => h))).mono ?_
  rintro e w' ⟨rfl, rfl⟩
  go_wp2_with fail
  refine CodeN.seq_k (fun K hK => ?_)
  go_wp2_with fail
  have K1 : Keep (fun _ => False) w (w.alloc (.cells #[.int .i64 0, .int .i64 0, .int .i64 0, .int .i64 0, .bool false, .int .u64 0, .slice none 0 0, .slice none 0 0, .string ⟨#[]⟩] 33)) := (Keep.refl (fun _ => False) w).alloc _
  have H1 := H.out.keep K1 (fun _ _ h => h)
  obtain ⟨s, r, hc⟩ := H1.ch i hi
  have hsome : 0 < ((q i).map Qm.val).toArray.size := by simp [HQ.out]
  have e1 : ((q i).map Qm.val).toArray.getD 0 undef = .agg #[.int .i64 x.kind, .int .i64 x.txn, .int .i64 x.page, .int .i64 x.dst, .bool x.fast, .int .u64 x.lsn, .slice x.wa x.wl x.wc, .slice x.pa x.pl x.pc, .string x.body] := by rw [HQ.out]; rfl
  have e2 : ((q i).map Qm.val).toArray.extract 1 ((q i).map Qm.val).toArray.size = (rest.map Qm.val).toArray := by rw [HQ.out]; simp; rw [List.take_of_length_le (by simp)]
  obtain ⟨W, hW⟩ : ∃ W, W = (w.alloc (.cells #[.int .i64 0, .int .i64 0, .int .i64 0, .int .i64 0, .bool false, .int .u64 0, .slice none 0 0, .slice none 0 0, .string ⟨#[]⟩] 33)).setChan (L.c i) 256 (rest.map Qm.val).toArray false s (r + 1) false := ⟨_, rfl⟩
  have HS : Hid (∀ (fr : Frame) (cs : List Frame) (es : Array Event), stepG Try.prog true (G fr cs) (w.alloc (.cells #[.int .i64 0, .int .i64 0, .int .i64 0, .int .i64 0, .bool false, .int .u64 0, .slice none 0 0, .slice none 0 0, .string ⟨#[]⟩] 33)) = .comm (G fr cs) #[rcase (L.c i) (.agg #[.int .i64 0, .int .i64 0, .int .i64 0, .int .i64 0, .bool false, .int .u64 0, .slice none 0 0, .slice none 0 0, .string ⟨#[]⟩])] false .select (w.alloc (.cells #[.int .i64 0, .int .i64 0, .int .i64 0, .int .i64 0, .bool false, .int .u64 0, .slice none 0 0, .slice none 0 0, .string ⟨#[]⟩] 33)) es →
      step Try.prog (solo (G fr cs) (w.alloc (.cells #[.int .i64 0, .int .i64 0, .int .i64 0, .int .i64 0, .bool false, .int .u64 0, .slice none 0 0, .slice none 0 0, .string ⟨#[]⟩] 33))) = .next (solo (G (fr.finish (.tuple #[.int .i64 0, .bool true, .agg #[.int .i64 x.kind, .int .i64 x.txn, .int .i64 x.page, .int .i64 x.dst, .bool x.fast, .int .u64 x.lsn, .slice x.wa x.wl x.wc, .slice x.pa x.pl x.pc, .string x.body]])) cs) W)) := fun fr cs es h => by
    have := step_lone_select_recv_buf h hc hsome
    rw [e1, e2, ← hW] at this
    exact this
  have hB : Blk W w.heap.size 33 [.int .i64 0, .int .i64 0, .int .i64 0, .int .i64 0, .bool false, .int .u64 0, .slice none 0 0, .slice none 0 0, .string ⟨#[]⟩] := by
    rw [hW]
    have := H.out.blk_lt (.inr (.inr (.inr ⟨i, hi, rfl⟩)))
    exact (Blk.new w 33 [.int .i64 0, .int .i64 0, .int .i64 0, .int .i64 0, .bool false, .int .u64 0, .slice none 0 0, .slice none 0 0, .string ⟨#[]⟩]).keep (keep_setChan _ _ _ _ _ _ _ _) (by omega)
  have hN : NetAt W L (put q i rest) := by
    rw [hW]; exact H1.chan hi rest (by have := H.out.len i hi; rw [HQ.out] at this; simp at this; omega) s (r + 1)
  have hK : Keep (fun k => k = L.c i) w W := by
    rw [hW]; exact (K1.mono (fun _ h => h.elim)).trans (keep_setChan _ _ _ _ _ _ _ _) (fun _ h => .inl h)
  have hsz := hB.lt
  have m0 := hB.at (i := 0) rfl
  have m1 := hB.at (i := 1) rfl
  have m2 := hB.at (i := 2) rfl
  have m3 := hB.at (i := 3) rfl
  have m4 := hB.at (i := 4) rfl
  have m5 := hB.at (i := 5) rfl
  have m6 := hB.at (i := 6) rfl
  have m7 := hB.at (i := 7) rfl
  have m8 := hB.at (i := 8) rfl
  have mf := hB.free
  have HB := Lib.hid hB
  have HN := Lib.hid hN
  have HK := Lib.hid hK
  clear hsome hc e1 e2 H1 K1 hB hN hK hW H
  refine CodeN.sel (v := .tuple #[.int .i64 0, .bool true, .agg #[.int .i64 x.kind, .int .i64 x.txn, .int .i64 x.page, .int .i64 x.dst, .bool x.fast, .int .u64 x.lsn, .slice x.wa x.wl x.wc, .slice x.pa x.pl x.pc, .string x.body]]) (w' := W) rfl (by simp [go_sem, execOp, rcase, Act.eval]) HS.out (fun K hK => ?_)
  go_wp2_with fail
  refine CodeN.of_wp ?_
  go_wp2_with fail
  obtain ⟨hB9, hK9⟩ := HB.out.set9 (.int .i64 x.kind) (.int .i64 x.txn) (.int .i64 x.page) (.int .i64 x.dst) (.bool x.fast) (.int .u64 x.lsn) (.slice x.wa x.wl x.wc) (.slice x.pa x.pl x.pc) (.string x.body)
  have hB10 := hB9.keep ((Keep.refl (fun _ => False) _).alloc (.cells #[.int .i64 x.kind, .int .i64 x.txn, .int .i64 x.page, .int .i64 x.dst, .bool x.fast, .int .u64 x.lsn, .slice x.wa x.wl x.wc, .slice x.pa x.pl x.pc, .string x.body] 33)) (fun h => h)
  have q0 := hB10.at (i := 0) rfl
  have q1 := hB10.at (i := 1) rfl
  have q2 := hB10.at (i := 2) rfl
  have q3 := hB10.at (i := 3) rfl
  have q4 := hB10.at (i := 4) rfl
  have q5 := hB10.at (i := 5) rfl
  have q6 := hB10.at (i := 6) rfl
  have q7 := hB10.at (i := 7) rfl
  have q8 := hB10.at (i := 8) rfl
  refine bodyPost_ret (v := .tuple #[.agg #[.int .i64 x.kind, .int .i64 x.txn, .int .i64 x.page, .int .i64 x.dst, .bool x.fast, .int .u64 x.lsn, .slice x.wa x.wl x.wc, .slice x.pa x.pl x.pc, .string x.body], .bool true]) (by simp [results, Try.results13, go_sem, q0, q1, q2, q3, q4, q5, q6, q7, q8]) rfl ⟨rfl, ?_, ?_⟩
  · exact HN.out.keep (hK9.alloc _) (fun k hk e => by have := H0.out.blk_lt hk; omega)
  · exact HK.out.trans (hK9.alloc _) (fun k e => .inr (by omega))

set_option maxHeartbeats 1000000 in
theorem take_empty (L : Lay) (q : Nat → List Qm) (f t : Int) (i : Nat) (w : World) (h : NetAt w L q) (hr : rowIx L.n f t = some i) (hq : q i = []) :
    Calls Try.prog 13 #[.pointer (some ⟨L.b, 0, none⟩), .int .i64 f, .int .i64 t] w fun e w' =>
      e = .returned (.tuple #[.agg #[.int .i64 0, .int .i64 0, .int .i64 0, .int .i64 0, .bool false, .int .u64 0, .slice none 0 0, .slice none 0 0, .string ⟨#[]⟩], .bool false]) ∧ Keep (fun _ => False) w w' := by
  have hi := rowIx_lt hr
  have HR := Lib.hid (fun w h => row_some L q f t i w h hr)
  have H := Lib.hid h
  have HQ := Lib.hid hq
  clear h hr hq
  refine callsN Try.func13 rfl ?_
  simp only [Try.ntmps13, List.size_toArray, List.length_cons, List.length_nil, Nat.reduceAdd, Nat.reduceSub, Array.replicate_succ, Array.replicate_zero, List.push_toArray, List.append_toArray, List.nil_append, List.cons_append]
  refine CodeN.seq_k (fun K hK => ?_)
  go_wp2_with fail
  refine CodeN.seq_k (fun K hK => ?_)
  go_wp2_with fail
  refine (HR.out _ (H.out.keep ((Keep.refl (fun _ => False) _).alloc _) (fun _ _ h => h))).mono ?_
  rintro e w' ⟨rfl, rfl⟩
  go_wp2_with fail
  refine CodeN.seq_k (fun K hK => ?_)
  go_wp2_with fail
  obtain ⟨W, hW⟩ : ∃ W, W = w.alloc (.cells #[.int .i64 0, .int .i64 0, .int .i64 0, .int .i64 0, .bool false, .int .u64 0, .slice none 0 0, .slice none 0 0, .string ⟨#[]⟩] 33) := ⟨_, rfl⟩
  have hB : Blk W w.heap.size 33 [.int .i64 0, .int .i64 0, .int .i64 0, .int .i64 0, .bool false, .int .u64 0, .slice none 0 0, .slice none 0 0, .string ⟨#[]⟩] := by rw [hW]; exact Blk.new w 33 [.int .i64 0, .int .i64 0, .int .i64 0, .int .i64 0, .bool false, .int .u64 0, .slice none 0 0, .slice none 0 0, .string ⟨#[]⟩]
  have hK1 : Keep (fun _ => False) w W := by rw [hW]; exact (Keep.refl _ _).alloc _
  obtain ⟨s, r, hc⟩ := (H.out.keep hK1 (fun _ _ h => h)).ch i hi
  rw [HQ.out] at hc
  have HC := Lib.hid hc
  clear hc
  rw [← hW]
  have hsz := hB.lt
  have m0 := hB.at (i := 0) rfl
  have m1 := hB.at (i := 1) rfl
  have m2 := hB.at (i := 2) rfl
  have m3 := hB.at (i := 3) rfl
  have m4 := hB.at (i := 4) rfl
  have m5 := hB.at (i := 5) rfl
  have m6 := hB.at (i := 6) rfl
  have m7 := hB.at (i := 7) rfl
  have m8 := hB.at (i := 8) rfl
  have mf := hB.free
  have HB := Lib.hid hB
  have HK := Lib.hid hK1
  clear hB hK1 hW
  refine CodeN.sel (cases := #[rcase (L.c i) (.agg #[.int .i64 0, .int .i64 0, .int .i64 0, .int .i64 0, .bool false, .int .u64 0, .slice none 0 0, .slice none 0 0, .string ⟨#[]⟩])]) (w' := W) rfl (by simp [go_sem, execOp, rcase, Act.eval]) (fun fr cs es h => step_lone_select_default h HC.out) (fun K hK => ?_)
  go_wp2_with fail
  refine CodeN.of_wp ?_
  go_wp2_with fail
  obtain ⟨hB9, hK9⟩ := HB.out.set9 (.int .i64 0) (.int .i64 0) (.int .i64 0) (.int .i64 0) (.bool false) (.int .u64 0) (.slice none 0 0) (.slice none 0 0) (.string ⟨#[]⟩)
  have q0 := hB9.at (i := 0) rfl
  have q1 := hB9.at (i := 1) rfl
  have q2 := hB9.at (i := 2) rfl
  have q3 := hB9.at (i := 3) rfl
  have q4 := hB9.at (i := 4) rfl
  have q5 := hB9.at (i := 5) rfl
  have q6 := hB9.at (i := 6) rfl
  have q7 := hB9.at (i := 7) rfl
  have q8 := hB9.at (i := 8) rfl
  refine bodyPost_ret (v := .tuple #[.agg #[.int .i64 0, .int .i64 0, .int .i64 0, .int .i64 0, .bool false, .int .u64 0, .slice none 0 0, .slice none 0 0, .string ⟨#[]⟩], .bool false]) (by simp [results, Try.results13, go_sem, q0, q1, q2, q3, q4, q5, q6, q7, q8]) rfl ⟨rfl, ?_⟩
  exact HK.out.trans hK9 (fun k e => .inr (by omega))

set_option maxHeartbeats 1000000 in
theorem take_none (L : Lay) (q : Nat → List Qm) (f t : Int) (w : World) (h : NetAt w L q) (hr : rowIx L.n f t = none) :
    Calls Try.prog 13 #[.pointer (some ⟨L.b, 0, none⟩), .int .i64 f, .int .i64 t] w fun e w' =>
      e = .returned (.tuple #[.agg #[.int .i64 0, .int .i64 0, .int .i64 0, .int .i64 0, .bool false, .int .u64 0, .slice none 0 0, .slice none 0 0, .string ⟨#[]⟩], .bool false]) ∧ Keep (fun _ => False) w w' := by
  have HR := Lib.hid (fun w h => row_none L q f t w h hr)
  have H := Lib.hid h
  clear h hr
  refine callsN Try.func13 rfl ?_
  simp only [Try.ntmps13, List.size_toArray, List.length_cons, List.length_nil, Nat.reduceAdd, Nat.reduceSub, Array.replicate_succ, Array.replicate_zero, List.push_toArray, List.append_toArray, List.nil_append, List.cons_append]
  refine CodeN.seq_k (fun K hK => ?_)
  go_wp2_with fail
  refine CodeN.seq_k (fun K hK => ?_)
  go_wp2_with fail
  refine (HR.out _ (H.out.keep ((Keep.refl (fun _ => False) _).alloc _) (fun _ _ h => h))).mono ?_
  rintro e w' ⟨rfl, rfl⟩
  go_wp2_with fail
  refine CodeN.seq_k (fun K hK => ?_)
  go_wp2_with fail
  obtain ⟨W, hW⟩ : ∃ W, W = w.alloc (.cells #[.int .i64 0, .int .i64 0, .int .i64 0, .int .i64 0, .bool false, .int .u64 0, .slice none 0 0, .slice none 0 0, .string ⟨#[]⟩] 33) := ⟨_, rfl⟩
  have hB : Blk W w.heap.size 33 [.int .i64 0, .int .i64 0, .int .i64 0, .int .i64 0, .bool false, .int .u64 0, .slice none 0 0, .slice none 0 0, .string ⟨#[]⟩] := by rw [hW]; exact Blk.new w 33 [.int .i64 0, .int .i64 0, .int .i64 0, .int .i64 0, .bool false, .int .u64 0, .slice none 0 0, .slice none 0 0, .string ⟨#[]⟩]
  have hK1 : Keep (fun _ => False) w W := by rw [hW]; exact (Keep.refl _ _).alloc _
  rw [← hW]
  have hsz := hB.lt
  have m0 := hB.at (i := 0) rfl
  have m1 := hB.at (i := 1) rfl
  have m2 := hB.at (i := 2) rfl
  have m3 := hB.at (i := 3) rfl
  have m4 := hB.at (i := 4) rfl
  have m5 := hB.at (i := 5) rfl
  have m6 := hB.at (i := 6) rfl
  have m7 := hB.at (i := 7) rfl
  have m8 := hB.at (i := 8) rfl
  have mf := hB.free
  have HB := Lib.hid hB
  have HK := Lib.hid hK1
  clear hB hK1 hW
  refine CodeN.sel (cases := #[rcaseNil (.agg #[.int .i64 0, .int .i64 0, .int .i64 0, .int .i64 0, .bool false, .int .u64 0, .slice none 0 0, .slice none 0 0, .string ⟨#[]⟩])]) (w' := W) rfl (by simp [go_sem, execOp, rcaseNil, Act.eval]) (fun fr cs es h => step_lone_select_recv_nil h) (fun K hK => ?_)
  go_wp2_with fail
  refine CodeN.of_wp ?_
  go_wp2_with fail
  obtain ⟨hB9, hK9⟩ := HB.out.set9 (.int .i64 0) (.int .i64 0) (.int .i64 0) (.int .i64 0) (.bool false) (.int .u64 0) (.slice none 0 0) (.slice none 0 0) (.string ⟨#[]⟩)
  have q0 := hB9.at (i := 0) rfl
  have q1 := hB9.at (i := 1) rfl
  have q2 := hB9.at (i := 2) rfl
  have q3 := hB9.at (i := 3) rfl
  have q4 := hB9.at (i := 4) rfl
  have q5 := hB9.at (i := 5) rfl
  have q6 := hB9.at (i := 6) rfl
  have q7 := hB9.at (i := 7) rfl
  have q8 := hB9.at (i := 8) rfl
  refine bodyPost_ret (v := .tuple #[.agg #[.int .i64 0, .int .i64 0, .int .i64 0, .int .i64 0, .bool false, .int .u64 0, .slice none 0 0, .slice none 0 0, .string ⟨#[]⟩], .bool false]) (by simp [results, Try.results13, go_sem, q0, q1, q2, q3, q4, q5, q6, q7, q8]) rfl ⟨rfl, ?_⟩
  exact HK.out.trans hK9 (fun k e => .inr (by omega))

set_option maxHeartbeats 1000000 in
theorem take_nil (f t : Int) (w : World) :
    Calls Try.prog 13 #[.pointer none, .int .i64 f, .int .i64 t] w fun e w' =>
      e = .returned (.tuple #[.agg #[.int .i64 0, .int .i64 0, .int .i64 0, .int .i64 0, .bool false, .int .u64 0, .slice none 0 0, .slice none 0 0, .string ⟨#[]⟩], .bool false]) ∧ Keep (fun _ => False) w w' := by
  have HR := Lib.hid (fun w => row_nil f t w)
  refine callsN Try.func13 rfl ?_
  simp only [Try.ntmps13, List.size_toArray, List.length_cons, List.length_nil, Nat.reduceAdd, Nat.reduceSub, Array.replicate_succ, Array.replicate_zero, List.push_toArray, List.append_toArray, List.nil_append, List.cons_append]
  refine CodeN.seq_k (fun K hK => ?_)
  go_wp2_with fail
  refine CodeN.seq_k (fun K hK => ?_)
  go_wp2_with fail
  refine (HR.out _).mono ?_
  rintro e w' ⟨rfl, rfl⟩
  go_wp2_with fail
  refine CodeN.seq_k (fun K hK => ?_)
  go_wp2_with fail
  obtain ⟨W, hW⟩ : ∃ W, W = w.alloc (.cells #[.int .i64 0, .int .i64 0, .int .i64 0, .int .i64 0, .bool false, .int .u64 0, .slice none 0 0, .slice none 0 0, .string ⟨#[]⟩] 33) := ⟨_, rfl⟩
  have hB : Blk W w.heap.size 33 [.int .i64 0, .int .i64 0, .int .i64 0, .int .i64 0, .bool false, .int .u64 0, .slice none 0 0, .slice none 0 0, .string ⟨#[]⟩] := by rw [hW]; exact Blk.new w 33 [.int .i64 0, .int .i64 0, .int .i64 0, .int .i64 0, .bool false, .int .u64 0, .slice none 0 0, .slice none 0 0, .string ⟨#[]⟩]
  have hK1 : Keep (fun _ => False) w W := by rw [hW]; exact (Keep.refl _ _).alloc _
  rw [← hW]
  have hsz := hB.lt
  have m0 := hB.at (i := 0) rfl
  have m1 := hB.at (i := 1) rfl
  have m2 := hB.at (i := 2) rfl
  have m3 := hB.at (i := 3) rfl
  have m4 := hB.at (i := 4) rfl
  have m5 := hB.at (i := 5) rfl
  have m6 := hB.at (i := 6) rfl
  have m7 := hB.at (i := 7) rfl
  have m8 := hB.at (i := 8) rfl
  have mf := hB.free
  have HB := Lib.hid hB
  have HK := Lib.hid hK1
  clear hB hK1 hW
  refine CodeN.sel (cases := #[rcaseNil (.agg #[.int .i64 0, .int .i64 0, .int .i64 0, .int .i64 0, .bool false, .int .u64 0, .slice none 0 0, .slice none 0 0, .string ⟨#[]⟩])]) (w' := W) rfl (by simp [go_sem, execOp, rcaseNil, Act.eval]) (fun fr cs es h => step_lone_select_recv_nil h) (fun K hK => ?_)
  go_wp2_with fail
  refine CodeN.of_wp ?_
  go_wp2_with fail
  obtain ⟨hB9, hK9⟩ := HB.out.set9 (.int .i64 0) (.int .i64 0) (.int .i64 0) (.int .i64 0) (.bool false) (.int .u64 0) (.slice none 0 0) (.slice none 0 0) (.string ⟨#[]⟩)
  have q0 := hB9.at (i := 0) rfl
  have q1 := hB9.at (i := 1) rfl
  have q2 := hB9.at (i := 2) rfl
  have q3 := hB9.at (i := 3) rfl
  have q4 := hB9.at (i := 4) rfl
  have q5 := hB9.at (i := 5) rfl
  have q6 := hB9.at (i := 6) rfl
  have q7 := hB9.at (i := 7) rfl
  have q8 := hB9.at (i := 8) rfl
  refine bodyPost_ret (v := .tuple #[.agg #[.int .i64 0, .int .i64 0, .int .i64 0, .int .i64 0, .bool false, .int .u64 0, .slice none 0 0, .slice none 0 0, .string ⟨#[]⟩], .bool false]) (by simp [results, Try.results13, go_sem, q0, q1, q2, q3, q4, q5, q6, q7, q8]) rfl ⟨rfl, ?_⟩
  exact HK.out.trans hK9 (fun k e => .inr (by omega))

end Go.Proofs.Ytgphlopbbmjdhaa
