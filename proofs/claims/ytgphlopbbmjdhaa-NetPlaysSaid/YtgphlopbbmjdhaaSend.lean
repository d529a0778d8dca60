/- Send of the net: into a row with room, into a full one, where there is none, of a nil net. -/
import Derived.Test.YtgphlopbbmjdhaaCopy
namespace Go.Proofs.Ytgphlopbbmjdhaa
open Go.RowKit Go.Conc
set_option linter.unusedVariables false
set_option linter.unusedSimpArgs false

/-- The rows, one of them another. -/
def put (q : Nat → List Qm) (i : Nat) (l : List Qm) : Nat → List Qm := fun k => if k = i then l else q k

theorem keep_setChan (w : World) (c cap : Nat) (buf : Array Value) (cl : Bool) (s r : Nat) (tm : Bool) : Keep (fun k => k = c) w (w.setChan c cap buf cl s r tm) :=
  ⟨rfl, rfl, rfl, by simp [World.setChan], fun k hk hn => by simp only [World.setChan]; rw [Array.getElem?_setIfInBounds_ne (fun e => hn e.symm)]⟩

theorem chan_ne_cell {w : World} {c cap s r : Nat} {buf : Array Value} {cl tm : Bool} (h : w.heap[c]? = some (.chan cap buf cl s r tm)) {a : Addr} {v : Value} (hv : w.cell? a = some v) : a.block ≠ c := by
  intro e; simp [World.cell?, e, h] at hv

theorem NetAt.chan {w : World} {L : Lay} {q : Nat → List Qm} (h : NetAt w L q) {i : Nat} (hi : i < 2 * L.n) (l : List Qm) (hl : l.length ≤ 256) (s r : Nat) : NetAt (w.setChan (L.c i) 256 (l.map Qm.val).toArray false s r false) L (put q i l) := by
  have k := keep_setChan w (L.c i) 256 (l.map Qm.val).toArray false s r false
  obtain ⟨s0, r0, hc⟩ := h.ch i hi
  have hlt := lt_of_block hc
  refine ⟨h.pos, h.top.keep k (chan_ne_cell hc h.top.fst), fun j hj => k.got (h.up j hj) (chan_ne_cell hc (h.up j hj)), fun j hj => k.got (h.down j hj) (chan_ne_cell hc (h.down j hj)), fun j hj => ?_, fun j hj => ?_, h.inj⟩
  · by_cases e : j = i
    · subst e
      refine ⟨s, r, ?_⟩
      simp [put, World.setChan, hlt]
    · obtain ⟨s1, r1, hc1⟩ := h.ch j hj
      refine ⟨s1, r1, ?_⟩
      simp only [put, if_neg e]
      exact (k.block _ (lt_of_block hc1) (fun e' => e (h.inj j i hj hi e'))).trans hc1
  · by_cases e : j = i
    · simp [put, e, hl]
    · simp [put, e, h.len j hj]

theorem equalIn_chan (w : World) (d : Nat) (x y : Option Nat) : (Op.equalIn (d + 1) 63 (.chan x) (.chan y)).run Try.prog w = .ok (x == y) w := by
  simp [Op.equalIn, run_underlying Try.underlying63]
theorem eql_chan_some (w : World) (c : Nat) : (binOp .eql 63 (.chan (some c)) (.chan none)).run Try.prog w = .ok (.bool false) w := by
  simp only [binOp]
  simp [Op.equal, Op.maxDepth, equalIn_chan w 9999]
theorem eql_chan_none (w : World) : (binOp .eql 63 (.chan none) (.chan none)).run Try.prog w = .ok (.bool true) w := by
  simp only [binOp]
  simp [Op.equal, Op.maxDepth, equalIn_chan w 9999]

theorem ret_i {k : IntKind} {a b : Int} (h : a = b) : Ending.returned (.int k a) = .returned (.int k b) := by rw [h]

set_option maxHeartbeats 1000000 in
theorem send_ok (L : Lay) (q : Nat → List Qm) (f t : Int) (i : Nat) (m : Qm) (ad ae : Option Addr) (lw lp cw cp : Nat) (xs ys : List Value) (w : World) (h : NetAt w L q)
    (hr : rowIx L.n f t = some i) (hroom : (q i).length < 256) (hx : Src w ad lw cw 2 xs) (hlw : lw ≤ 1000) (hy : Src w ae lp cp 1 ys) (hlp : lp ≤ 1000) :
    Calls Try.prog 11 #[.pointer (some ⟨L.b, 0, none⟩), .int .i64 f, .int .i64 t, .agg #[.int .i64 m.kind, .int .i64 m.txn, .int .i64 m.page, .int .i64 m.dst, .bool m.fast, .int .u64 m.lsn, .slice ad lw cw, .slice ae lp cp, .string m.body]] w fun e w' =>
      e = .returned (.int .i64 0) ∧ ∃ g1 c1 g2 c2, NetAt w' L (put q i (q i ++ [{ m with wa := some ⟨g1, 0, none⟩, wl := lw, wc := c1, pa := some ⟨g2, 0, none⟩, pl := lp, pc := c2 }])) ∧ Keep (fun k => k = L.c i) w w' ∧
        w'.ownsRow w.heap.size 67 2 (.slice (some ⟨g1, 0, none⟩) lw c1) lw xs ∧ w'.ownsRow w.heap.size 3 1 (.slice (some ⟨g2, 0, none⟩) lp c2) lp ys ∧ g1 ≠ g2 := by
  have HX := Lib.hid hx
  have HY := Lib.hid hy
  have hi := rowIx_lt hr
  have HR := Lib.hid (fun w h => row_some L q f t i w h hr)
  have H := Lib.hid h
  have HQ := Lib.hid hroom
  clear hx hy h hr hroom
  have HE := eql_chan_some
  refine callsN Try.func11 rfl ?_
  simp only [Try.ntmps11, List.size_toArray, List.length_cons, List.length_nil, Nat.reduceAdd, Nat.reduceSub, Array.replicate_succ, Array.replicate_zero, List.push_toArray, List.append_toArray, List.nil_append, List.cons_append]
  refine CodeN.seq_k (fun K hK => ?_)
  go_wp2_with fail
  refine CodeN.seq_k (fun K hK => ?_)
  go_wp2_with fail
  refine (HR.out _ (H.out.keep ((Keep.refl (fun _ => False) _).alloc _) (fun _ _ h => h))).mono ?_
  rintro e w' ⟨rfl, rfl⟩
  go_wp2_with fail
  refine CodeN.seq_k (fun K hK => ?_)
  go_wp2_with fail
  refine CodeN.seq_k (fun K hK => ?_)
  go_wp2_with fail
  refine (copied_any m ad ae lw lp cw cp xs ys _ (HX.out.keep ((Keep.refl (fun _ => False) _).alloc _) (fun _ _ _ h => h)) hlw (HY.out.keep ((Keep.refl (fun _ => False) _).alloc _) (fun _ _ _ h => h)) hlp).mono ?_
  rintro e w1 ⟨g1, c1, g2, c2, rfl, hk, ho1, ho2, hne⟩
  go_wp2_with fail
  have K1 : Keep (fun _ => False) w w1 := ((Keep.refl (fun _ => False) w).alloc _).none_trans hk
  have H1 := H.out.keep K1 (fun _ _ h => h)
  obtain ⟨s, r, hc⟩ := H1.ch i hi
  have hroom : ((q i).map Qm.val).toArray.size < 256 := by simpa using HQ.out
  refine CodeN.sel (cases := #[scase (L.c i) (.agg #[.int .i64 m.kind, .int .i64 m.txn, .int .i64 m.page, .int .i64 m.dst, .bool m.fast, .int .u64 m.lsn, .slice (some ⟨g1, 0, none⟩) lw c1, .slice (some ⟨g2, 0, none⟩) lp c2, .string m.body]) (.agg #[.int .i64 0, .int .i64 0, .int .i64 0, .int .i64 0, .bool false, .int .u64 0, .slice none 0 0, .slice none 0 0, .string ⟨#[]⟩])]) rfl (by simp [go_sem, execOp, scase, Act.eval]) (fun fr cs es h => step_lone_select_send_room h hc hroom) (fun K hK => ?_)
  go_wp2_with fail
  refine CodeN.of_wp ?_
  go_wp2_with fail
  go_ret
  refine ⟨rfl, g1, c1, g2, c2, ?_, ?_, ?_, ?_, hne⟩
  · have := H1.chan hi (q i ++ [{ m with wa := some ⟨g1, 0, none⟩, wl := lw, wc := c1, pa := some ⟨g2, 0, none⟩, pl := lp, pc := c2 }]) (by simp at hroom ⊢; omega) (s + 1) r
    simpa [Qm.val] using this
  · exact (K1.mono (fun _ h => h.elim)).trans (keep_setChan _ _ _ _ _ _ _ _) (fun _ h => .inl h)
  · have hb := H.out.blk_lt (.inr (.inr (.inr ⟨i, hi, rfl⟩)))
    exact owns_base (owns_keep ho1 (keep_setChan _ _ _ _ _ _ _ _) (fun j hj e => by have := (ho1.lt j hj).1; simp at this; omega)) (by simp)
  · have hb := H.out.blk_lt (.inr (.inr (.inr ⟨i, hi, rfl⟩)))
    exact owns_base (owns_keep ho2 (keep_setChan _ _ _ _ _ _ _ _) (fun j hj e => by have := (ho2.lt j hj).1; simp at this; omega)) (by simp)

set_option maxHeartbeats 1000000 in
theorem send_full (L : Lay) (q : Nat → List Qm) (f t : Int) (i : Nat) (m : Qm) (ad ae : Option Addr) (lw lp cw cp : Nat) (xs ys : List Value) (w : World) (h : NetAt w L q)
    (hr : rowIx L.n f t = some i) (hfull : (q i).length = 256) (hx : Src w ad lw cw 2 xs) (hlw : lw ≤ 1000) (hy : Src w ae lp cp 1 ys) (hlp : lp ≤ 1000) :
    Calls Try.prog 11 #[.pointer (some ⟨L.b, 0, none⟩), .int .i64 f, .int .i64 t, .agg #[.int .i64 m.kind, .int .i64 m.txn, .int .i64 m.page, .int .i64 m.dst, .bool m.fast, .int .u64 m.lsn, .slice ad lw cw, .slice ae lp cp, .string m.body]] w fun e w' =>
      e = .returned (.int .i64 7) ∧ Keep (fun _ => False) w w' := by
  have HX := Lib.hid hx
  have HY := Lib.hid hy
  have hi := rowIx_lt hr
  have HR := Lib.hid (fun w h => row_some L q f t i w h hr)
  have H := Lib.hid h
  have HQ := Lib.hid hfull
  clear hx hy h hr hfull
  have HE := eql_chan_some
  refine callsN Try.func11 rfl ?_
  simp only [Try.ntmps11, List.size_toArray, List.length_cons, List.length_nil, Nat.reduceAdd, Nat.reduceSub, Array.replicate_succ, Array.replicate_zero, List.push_toArray, List.append_toArray, List.nil_append, List.cons_append]
  refine CodeN.seq_k (fun K hK => ?_)
  go_wp2_with fail
  refine CodeN.seq_k (fun K hK => ?_)
  go_wp2_with fail
  refine (HR.out _ (H.out.keep ((Keep.refl (fun _ => False) _).alloc _) (fun _ _ h => h))).mono ?_
  rintro e w' ⟨rfl, rfl⟩
  go_wp2_with fail
  refine CodeN.seq_k (fun K hK => ?_)
  go_wp2_with fail
  refine CodeN.seq_k (fun K hK => ?_)
  go_wp2_with fail
  refine (copied_any m ad ae lw lp cw cp xs ys _ (HX.out.keep ((Keep.refl (fun _ => False) _).alloc _) (fun _ _ _ h => h)) hlw (HY.out.keep ((Keep.refl (fun _ => False) _).alloc _) (fun _ _ _ h => h)) hlp).mono ?_
  rintro e w1 ⟨g1, c1, g2, c2, rfl, hk, ho1, ho2, hne⟩
  go_wp2_with fail
  have K1 : Keep (fun _ => False) w w1 := ((Keep.refl (fun _ => False) w).alloc _).none_trans hk
  have H1 := H.out.keep K1 (fun _ _ h => h)
  obtain ⟨s, r, hc⟩ := H1.ch i hi
  have hroom : 256 ≤ ((q i).map Qm.val).toArray.size := by simp [HQ.out]
  refine CodeN.sel (cases := #[scase (L.c i) (.agg #[.int .i64 m.kind, .int .i64 m.txn, .int .i64 m.page, .int .i64 m.dst, .bool m.fast, .int .u64 m.lsn, .slice (some ⟨g1, 0, none⟩) lw c1, .slice (some ⟨g2, 0, none⟩) lp c2, .string m.body]) (.agg #[.int .i64 0, .int .i64 0, .int .i64 0, .int .i64 0, .bool false, .int .u64 0, .slice none 0 0, .slice none 0 0, .string ⟨#[]⟩])]) rfl (by simp [go_sem, execOp, scase, Act.eval]) (fun fr cs es h => step_lone_select_send_full h hc hroom) (fun K hK => ?_)
  go_wp2_with fail
  refine CodeN.of_wp ?_
  go_wp2_with fail
  go_ret
  exact ⟨rfl, K1⟩

set_option maxHeartbeats 1000000 in
theorem send_none (L : Lay) (q : Nat → List Qm) (f t : Int) (m : Qm) (ad ae : Option Addr) (lw lp cw cp : Nat) (w : World) (h : NetAt w L q) (hr : rowIx L.n f t = none) :
    Calls Try.prog 11 #[.pointer (some ⟨L.b, 0, none⟩), .int .i64 f, .int .i64 t, .agg #[.int .i64 m.kind, .int .i64 m.txn, .int .i64 m.page, .int .i64 m.dst, .bool m.fast, .int .u64 m.lsn, .slice ad lw cw, .slice ae lp cp, .string m.body]] w fun e w' => e = .returned (.int .i64 1) ∧ Keep (fun _ => False) w w' := by
  have HR := Lib.hid (fun w h => row_none L q f t w h hr)
  have H := Lib.hid h
  clear h hr
  have HE := eql_chan_none
  go_enter Try.func11, Try.ntmps11
  go_wp2_with fail
  refine (HR.out _ (H.out.keep ((Keep.refl (fun _ => False) _).alloc _) (fun _ _ h => h))).mono ?_
  rintro e w' ⟨rfl, rfl⟩
  go_wp2_with fail
  go_ret
  exact ⟨rfl, (Keep.refl _ _).alloc _⟩

set_option maxHeartbeats 1000000 in
theorem send_nil (f t : Int) (m : Qm) (ad ae : Option Addr) (lw lp cw cp : Nat) (w : World) :
    Calls Try.prog 11 #[.pointer none, .int .i64 f, .int .i64 t, .agg #[.int .i64 m.kind, .int .i64 m.txn, .int .i64 m.page, .int .i64 m.dst, .bool m.fast, .int .u64 m.lsn, .slice ad lw cw, .slice ae lp cp, .string m.body]] w fun e w' => e = .returned (.int .i64 1) ∧ Keep (fun _ => False) w w' := by
  have HR := Lib.hid (fun w => row_nil f t w)
  have HE := eql_chan_none
  go_enter Try.func11, Try.ntmps11
  go_wp2_with fail
  refine (HR.out _).mono ?_
  rintro e w' ⟨rfl, rfl⟩
  go_wp2_with fail
  go_ret
  exact ⟨rfl, (Keep.refl _ _).alloc _⟩

end Go.Proofs.Ytgphlopbbmjdhaa
