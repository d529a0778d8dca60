/- 'step' of NetPlays: what stands between two sends, and what a send makes of it. -/
import Derived.Test.YtgphlopbbmjdhaaAlike
import Derived.Test.YtgphlopbbmjdhaaSpoil
namespace Go.Proofs.Ytgphlopbbmjdhaa
open Go.RowKit Go.Conc
set_option linter.unusedVariables false
set_option linter.unusedSimpArgs false

def OpV.cells (o : OpV) : List Value := [.int .i64 o.kind, .int .i64 o.frm, .int .i64 o.dest, .int .i64 o.n, .int .i64 o.m.kind, .int .i64 o.m.txn, .int .i64 o.m.page, .int .i64 o.m.dst, .bool o.m.fast, .int .u64 o.m.lsn, .slice o.m.wa o.m.wl o.m.wc, .slice o.m.pa o.m.pl o.m.pc, .string o.m.body]

/-- The blocks that 'step' makes for itself. -/
structure Own3 (w : World) (s : Nat) (ts os rs : List Value) : Prop where
  t : Blk w s 54 ts
  o : Blk w (s + 1) 41 os
  r : Blk w (s + 2) 54 rs

theorem Own3.keep {S : Nat → Prop} {w w' : World} {s : Nat} {ts os rs : List Value} (h : Own3 w s ts os rs) (k : Keep S w w') (hS : ∀ b, s ≤ b → b ≤ s + 2 → ¬ S b) : Own3 w' s ts os rs :=
  ⟨h.t.keep k (hS _ (by omega) (by omega)), h.o.keep k (hS _ (by omega) (by omega)), h.r.keep k (hS _ (by omega) (by omega))⟩

theorem Own3.new (w : World) (ts os rs : List Value) : Own3 (((w.alloc (.cells ts.toArray 54)).alloc (.cells os.toArray 41)).alloc (.cells rs.toArray 54)) w.heap.size ts os rs := by
  have h1 := Blk.new w 54 ts
  have h2 := Blk.new (w.alloc (.cells ts.toArray 54)) 41 os
  have h3 := Blk.new ((w.alloc (.cells ts.toArray 54)).alloc (.cells os.toArray 41)) 54 rs
  have s2 : (w.alloc (.cells ts.toArray 54)).heap.size = w.heap.size + 1 := by simp
  have s3 : ((w.alloc (.cells ts.toArray 54)).alloc (.cells os.toArray 41)).heap.size = w.heap.size + 2 := by simp
  rw [s2] at h2
  rw [s3] at h3
  exact ⟨(h1.keep ((Keep.refl (fun _ => False) _).alloc _) (fun h => h)).keep ((Keep.refl (fun _ => False) _).alloc _) (fun h => h), h2.keep ((Keep.refl (fun _ => False) _).alloc _) (fun h => h), h3⟩

/-- What came of a send to the document's net. -/
def SendRes (w : World) (n : Nat) (zs : List It) (f t : Int) (z : Qm) (a : Option Addr) (len cap : Nat) (a2 : Option Addr) (len2 cap2 : Nat) (r : Int) : Prop :=
  (rowIx n f t = none ∧ r = 1 ∧ a2 = a ∧ len2 = len ∧ cap2 = cap) ∨ (∃ i b, rowIx n f t = some i ∧ (sel f t zs).length < 256 ∧ r = 0 ∧ len2 = len + 1 ∧ RefAt w b a2 len2 cap2 (zs ++ [⟨f, t, z⟩])) ∨ (∃ i, rowIx n f t = some i ∧ 256 ≤ (sel f t zs).length ∧ r = 7 ∧ a2 = a ∧ len2 = len ∧ cap2 = cap)

theorem SendRes.keep {S : Nat → Prop} {w w' : World} {n : Nat} {zs : List It} {f t : Int} {z : Qm} {a : Option Addr} {len cap : Nat} {a2 : Option Addr} {len2 cap2 : Nat} {r : Int} (h : SendRes w n zs f t z a len cap a2 len2 cap2 r) (k : Keep S w w') (hS : ∀ b, S b → ∃ cur T, w.heap[b]? = some (.cells cur T (0, 0)) ∧ T ≠ 77) : SendRes w' n zs f t z a len cap a2 len2 cap2 r := by
  rcases h with h | ⟨i, b, h1, h2, h3, h4, h5⟩ | h
  · exact .inl h
  · refine .inr (.inl ⟨i, b, h1, h2, h3, h4, h5.keep k (fun j hj e => ?_)⟩)
    obtain ⟨cur, T, hc, hT⟩ := hS j e
    obtain ⟨cur2, hc2⟩ := owns_cells h5.row hj
    rw [hc] at hc2
    simp at hc2
    exact hT hc2.2
  · exact .inr (.inr h)

/-- 'Send' of the document's net, whatever comes of it. -/
theorem refSend_any (n : Nat) (a : Option Addr) (len cap base : Nat) (zs : List It) (f t : Int) (m : Qm) (w : World) (h : RefAt w base a len cap zs) (hlen : len ≤ 1000000) :
    Calls Try.prog 27 #[.agg #[.int .i64 n, .slice a len cap], .int .i64 f, .int .i64 t, .agg #[.int .i64 m.kind, .int .i64 m.txn, .int .i64 m.page, .int .i64 m.dst, .bool m.fast, .int .u64 m.lsn, .slice m.wa m.wl m.wc, .slice m.pa m.pl m.pc, .string m.body]] w fun e w' =>
      ∃ a' len' cap' r, e = .returned (.tuple #[.agg #[.int .i64 n, .slice a' len' cap'], .int .i64 r]) ∧ Keep (fun _ => False) w w' ∧
        SendRes w' n zs f t m a len cap a' len' cap' r := by
  rcases hr : rowIx n f t with _ | i
  · exact (refSend_none n a len cap f t m w hr).mono fun e w' ⟨he, hk⟩ => ⟨a, len, cap, 1, he, hk, .inl ⟨hr, rfl, rfl, rfl, rfl⟩⟩
  · rcases Nat.lt_or_ge (sel f t zs).length 256 with hq | hq
    · exact (refSend_yes n a len cap base zs f t m i w h hlen hr hq).mono fun e w' ⟨a', cap', he, hR, hk⟩ => ⟨a', len + 1, cap', 0, he, hk, .inr (.inl ⟨i, _, hr, hq, rfl, rfl, hR⟩)⟩
    · exact (refSend_full n a len cap base zs f t m i w h hlen hr hq).mono fun e w' ⟨he, hk⟩ => ⟨a, len, cap, 7, he, hk, .inr (.inr ⟨i, hr, hq, rfl, rfl, rfl, rfl⟩)⟩

theorem few_of {w : World} {m : Qm} {c : Cont} (h : Reads w m c) (hf : m.few = true) : c.few := by
  have := h.wl
  simp only [Qm.few, decide_eq_true_eq] at hf
  exact ⟨by omega, by omega⟩

/-- What holds between two sends. -/
structure Between (w0 wS : World) (s : Nat) (L : Lay) (o : OpV) (n0 : Nat) (w : World) (k : Nat) (q : Nat → List Qm) (ps : List Pc) (a : Option Addr) (len cap base' : Nat) : Prop where
  st : State w w0.heap.size L q ps
  ref : RefAt w base' a len cap (ps.map Prod.fst)
  many : len ≤ n0 + k
  own : Own3 w s [.int .i64 L.n, .slice a len cap] o.cells [.int .i64 0, .slice none 0 0]
  low : Below w0.heap.size w0 w
  above : ∀ b, L.blk b → w0.heap.size ≤ b ∧ b < s
  zero : w0.heap.size ≤ s
  low2 : wS.heap.size ≤ s
  same : ∀ b vs, Blk wS b 54 vs → Blk w b 54 vs


theorem State.qlen {w : World} {base : Nat} {L : Lay} {q : Nat → List Qm} {ps : List Pc} (h : State w base L q ps) {f t : Int} {i : Nat} (hr : rowIx L.n f t = some i) : (q i).length = (sel f t (ps.map Prod.fst)).length := by
  have hl := (h.rows f t i hr).len
  rw [List.length_map] at hl
  rw [hl, ← selP_fst, List.length_map]

/-- Structs of the document's kind are as they were: written over were channels, and blocks of other kinds. -/
theorem same54 {S : Nat → Prop} {w w' : World} {L : Lay} {q : Nat → List Qm} (hN : NetAt w L q) (k : Keep S w w') (hS : ∀ b, b < w.heap.size → S b → (∃ i, i < 2 * L.n ∧ b = L.c i) ∨ (∃ cur T, w.heap[b]? = some (.cells cur T (0, 0)) ∧ T ≠ 54)) : ∀ b vs, Blk w b 54 vs → Blk w' b 54 vs := by
  intro b vs hb
  refine hb.keep k (fun e => ?_)
  rcases hS b hb.lt e with ⟨i, hi, e⟩ | ⟨cur, T, hc, hT⟩
  · obtain ⟨s', r', hc⟩ := hN.ch i hi
    unfold Blk at hb
    rw [e, hc] at hb
    simp at hb
  · unfold Blk at hb
    rw [hc] at hb
    simp at hb
    exact hT hb.2

theorem Holds.mine {w : World} {base : Nat} {x : Qm} {c : Cont} (h : Holds w base x c) : Mine2 w x.wa x.wl 2 67 ∧ Mine2 w x.pa x.pl 1 3 := ⟨owns_mine h.ws, owns_mine h.ps⟩

theorem Holds.spot {w : World} {base : Nat} {x : Qm} {c : Cont} (h : Holds w base x c) {b : Nat} (hb : Spot x.wa x.wl b ∨ Spot x.pa x.pl b) : x.has b := by
  rcases hb with ⟨a, ha, _, rfl⟩ | ⟨a, ha, _, rfl⟩
  · exact .inl (by rw [ha]; rfl)
  · exact .inr (by rw [ha]; rfl)

theorem Holds.other {w : World} {base : Nat} {x : Qm} {c : Cont} (h : Holds w base x c) {b T : Nat} {vs : List Value} (hb : Blk w b T vs) (h1 : T ≠ 67) (h2 : T ≠ 3) (j : Nat) (hj : x.has j) : j ≠ b := by
  intro e; subst e
  exact h.odd hj ⟨_, _, hb, h1, h2⟩

/-- Two blocks, one behind the other. -/
theorem new_two (w : World) (T U : Nat) (ts us : List Value) : Blk ((w.alloc (.cells ts.toArray T)).alloc (.cells us.toArray U)) w.heap.size T ts ∧ Blk ((w.alloc (.cells ts.toArray T)).alloc (.cells us.toArray U)) (w.heap.size + 1) U us ∧ Keep (fun _ => False) w ((w.alloc (.cells ts.toArray T)).alloc (.cells us.toArray U)) := by
  have h1 := Blk.new w T ts
  have h2 := Blk.new (w.alloc (.cells ts.toArray T)) U us
  have s2 : (w.alloc (.cells ts.toArray T)).heap.size = w.heap.size + 1 := by simp
  rw [s2] at h2
  exact ⟨h1.keep ((Keep.refl (fun _ => False) _).alloc _) (fun h => h), h2, ((Keep.refl _ _).alloc _).alloc _⟩

theorem new_one (w : World) (T : Nat) (ts : List Value) : Blk (w.alloc (.cells ts.toArray T)) w.heap.size T ts ∧ Keep (fun _ => False) w (w.alloc (.cells ts.toArray T)) := ⟨Blk.new w T ts, (Keep.refl _ _).alloc _⟩

/-- A struct of two cells is written over. -/
theorem set_two {w : World} {b T : Nat} {u0 u1 : Value} (h : Blk w b T [u0, u1]) (v0 v1 : Value) : Blk ((w.setCell ⟨b, 0, none⟩ v0).setCell ⟨b, 1, none⟩ v1) b T [v0, v1] ∧ Keep (fun k => k = b) w ((w.setCell ⟨b, 0, none⟩ v0).setCell ⟨b, 1, none⟩ v1) := by
  have KE : ∀ (W : World) (o : Nat) (u : Value), Keep (fun k => k = b) W (W.setCell ⟨b, o, none⟩ u) := fun W o u => Keep.setCell (Keep.refl (fun k => k = b) W) (p := ⟨b, o, none⟩) (.inl rfl) u
  exact ⟨(h.set 0 v0).set 1 v1, (KE _ 0 v0).trans (KE _ 1 v1) (fun _ h => .inl h)⟩

/-- The result of a send, laid into a block of its own. -/
theorem send_laid {w3 w5 : World} {xb : Nat} {u0 u1 : Value} {z : Qm} {c : Cont} {n : Nat} {zs : List It} {f t : Int} {a : Option Addr} {len cap : Nat} {a2 : Option Addr} {len2 cap2 : Nat} {r : Int} (K5 : Keep (fun _ => False) w3 w5) (XB : Blk w5 xb 54 [u0, u1]) (hxb : w3.heap.size ≤ xb) (hz : Holds w5 w3.heap.size z c) (hres : SendRes w5 n zs f t z a len cap a2 len2 cap2 r) (v0 v1 : Value) :
    Keep (fun _ => False) w3 ((w5.setCell ⟨xb, 0, none⟩ v0).setCell ⟨xb, 1, none⟩ v1) ∧ Blk ((w5.setCell ⟨xb, 0, none⟩ v0).setCell ⟨xb, 1, none⟩ v1) xb 54 [v0, v1] ∧ Holds ((w5.setCell ⟨xb, 0, none⟩ v0).setCell ⟨xb, 1, none⟩ v1) w3.heap.size z c ∧ SendRes ((w5.setCell ⟨xb, 0, none⟩ v0).setCell ⟨xb, 1, none⟩ v1) n zs f t z a len cap a2 len2 cap2 r := by
  obtain ⟨hb, hk⟩ := set_two XB v0 v1
  exact ⟨K5.trans hk (fun i e => .inr (by omega)), hb, hz.keep hk (fun j hj => hz.other XB (by decide) (by decide) j hj), hres.keep hk (fun b e => by subst e; exact ⟨_, _, XB, by decide⟩)⟩

theorem send_made {w3 w5 : World} {z : Qm} {c : Cont} {n : Nat} {zs : List It} {f t : Int} {a : Option Addr} {len cap : Nat} {a2 : Option Addr} {len2 cap2 : Nat} {r : Int} (K5 : Keep (fun _ => False) w3 w5) (hz : Holds w5 w3.heap.size z c) (hres : SendRes w5 n zs f t z a len cap a2 len2 cap2 r) (vs : List Value) :
    Keep (fun _ => False) w3 (w5.alloc (.cells vs.toArray 54)) ∧ Blk (w5.alloc (.cells vs.toArray 54)) w5.heap.size 54 vs ∧ Holds (w5.alloc (.cells vs.toArray 54)) w3.heap.size z c ∧ SendRes (w5.alloc (.cells vs.toArray 54)) n zs f t z a len cap a2 len2 cap2 r := by
  have hk : Keep (fun _ => False) w5 (w5.alloc (.cells vs.toArray 54)) := (Keep.refl _ _).alloc _
  exact ⟨K5.none_trans hk, Blk.new _ _ _, hz.keep hk (fun _ _ h => h), hres.keep hk (fun b e => e.elim)⟩

/-- The law's own copy of the message, as it stands behind the program's send. -/
theorem y_there {w3 wx w7 : World} {s : Nat} {u0 u1 v0 v1 : Value} {y : Qm} {c : Cont} {base : Nat} {S : Nat → Prop} (hy : Holds w3 base y c) (kx : Keep (fun _ => False) w3 wx) (ht : Blk wx s 54 [u0, u1])
    (k7 : Keep S ((wx.setCell ⟨s, 0, none⟩ v0).setCell ⟨s, 1, none⟩ v1) w7) (hS : ∀ b, y.has b → ¬ S b) : Holds w7 base y c := by
  obtain ⟨_, hk⟩ := set_two ht v0 v1
  have h1 := hy.keep kx (fun _ _ h => h)
  exact (h1.keep hk (fun j hj => h1.other ht (by decide) (by decide) j hj)).keep k7 hS

theorem Between.kept {w0 wS : World} {s : Nat} {L : Lay} {o : OpV} {n0 : Nat} {wr : World} {k : Nat} {q : Nat → List Qm} {ps : List Pc} {a : Option Addr} {len cap base' : Nat} (h : Between w0 wS s L o n0 wr k q ps a len cap base')
    {w3 wx w7 w8 : World} {y : Qm} {c : Cont} (k3 : Keep (fun _ => False) wr w3) (hy : Holds w3 wr.heap.size y c) (kx : Keep (fun _ => False) w3 wx)
    (k7 : Keep (fun _ => False) ((wx.setCell ⟨s, 0, none⟩ (.int .i64 L.n)).setCell ⟨s, 1, none⟩ (.slice a len cap)) w7)
    (k8 : Keep (fun b => Spot y.wa y.wl b ∨ Spot y.pa y.pl b) w7 w8) :
    Between w0 wS s L o n0 w8 (k + 1) q ps a len cap base' := by
  have kr := k3.none_trans kx
  have ox := h.own.keep kr (fun _ _ _ h => h)
  obtain ⟨bt, k6⟩ := set_two ox.t (.int .i64 L.n) (.slice a len cap)
  have h7 := y_there hy kx ox.t k7 (fun _ _ h => h)
  have spot : ∀ b, (Spot y.wa y.wl b ∨ Spot y.pa y.pl b) → wr.heap.size ≤ b ∧ b < w3.heap.size := fun b hb => hy.lt (hy.spot hb)
  have k7' : Keep (fun b => b = s) wr w7 := ((kr.mono (T := fun b => b = s) (fun _ h => h.elim)).trans k6 (fun _ h => .inl h)).none_trans k7
  have kall : Keep (fun b => b = s) wr w8 := k7'.trans k8 (fun i e => .inr (spot i e).1)
  have hs := h.own.t.lt
  refine ⟨h.st.odd kall (fun b hb e => ?_), h.ref.keep kall (fun j hj e => owns_ne h.ref.row h.own.t (by decide) hj e), by have := h.many; omega, ?_, h.low.trans (kall.below h.low.size (fun b hb e => by have := h.zero; omega)), h.above, h.zero, h.low2, fun b vs hb => (h.same b vs hb).keep kall (fun e => by have := hb.lt; have := h.low2; omega)⟩
  · subst e
    exact ⟨⟨_, _, h.own.t, by decide, by decide⟩, fun hh => by have := (h.above _ hh).2; omega⟩
  · have o6 : Own3 ((wx.setCell ⟨s, 0, none⟩ (.int .i64 L.n)).setCell ⟨s, 1, none⟩ (.slice a len cap)) s [.int .i64 L.n, .slice a len cap] o.cells [.int .i64 0, .slice none 0 0] :=
      ⟨bt, ox.o.keep k6 (by omega), ox.r.keep k6 (by omega)⟩
    exact (o6.keep k7 (fun _ _ _ h => h)).keep k8 (fun b h1 h2 e => by have := (spot b e).1; have := h.own.r.lt; omega)

theorem Between.sent {w0 wS : World} {s : Nat} {L : Lay} {o : OpV} {n0 : Nat} {wr : World} {k : Nat} {q : Nat → List Qm} {ps : List Pc} {a : Option Addr} {len cap base' : Nat} (h : Between w0 wS s L o n0 wr k q ps a len cap base')
    {w3 wx w7 w8 : World} {y x z : Qm} {c : Cont} {i : Nat} {a2 : Option Addr} {len2 cap2 b2 : Nat} (k3 : Keep (fun _ => False) wr w3) (hy : Holds w3 wr.heap.size y c) (kx : Keep (fun _ => False) w3 wx) (hz : Holds wx w3.heap.size z c)
    (hr : rowIx L.n o.frm o.dest = some i) (hR : RefAt wx b2 a2 len2 cap2 (ps.map Prod.fst ++ [⟨o.frm, o.dest, z⟩])) (hl : len2 = len + 1)
    (hN : NetAt w7 L (put q i (q i ++ [x]))) (k7 : Keep (fun b => b = L.c i) ((wx.setCell ⟨s, 0, none⟩ (.int .i64 L.n)).setCell ⟨s, 1, none⟩ (.slice a2 len2 cap2)) w7) (hx : Holds w7 wx.heap.size x c) (hf : c.few)
    (k8 : Keep (fun b => Spot y.wa y.wl b ∨ Spot y.pa y.pl b) w7 w8) :
    Between w0 wS s L o n0 w8 (k + 1) (put q i (q i ++ [x])) (ps ++ [(⟨o.frm, o.dest, z⟩, c)]) a2 len2 cap2 b2 := by
  have hi := rowIx_lt hr
  have kr := k3.none_trans kx
  have ox := h.own.keep kr (fun _ _ _ h => h)
  obtain ⟨bt, k6⟩ := set_two ox.t (.int .i64 L.n) (.slice a2 len2 cap2)
  have nx := h.st.net.keep kr (fun _ _ h => h)
  have n6 : NetAt ((wx.setCell ⟨s, 0, none⟩ (.int .i64 L.n)).setCell ⟨s, 1, none⟩ (.slice a2 len2 cap2)) L q := nx.keep k6 (fun b hb e => by have := (h.above _ hb).2; omega)
  have ci : w0.heap.size ≤ L.c i ∧ L.c i < s := h.above _ (.inr (.inr (.inr ⟨i, hi, rfl⟩)))
  have h7 := y_there hy kx ox.t k7 (fun b hb e => by have := (hy.lt hb).1; have := h.own.t.lt; omega)
  have spot : ∀ b, (Spot y.wa y.wl b ∨ Spot y.pa y.pl b) → wr.heap.size ≤ b ∧ b < w3.heap.size := fun b hb => hy.lt (hy.spot hb)
  have k7' : Keep (fun b => b = s ∨ b = L.c i) wr w7 := ((kr.mono (T := fun b => b = s ∨ b = L.c i) (fun _ h => h.elim)).trans k6 (fun _ h => .inl (.inl h))).trans k7 (fun _ h => .inl (.inr h))
  have kall : Keep (fun b => b = s ∨ b = L.c i) wr w8 := k7'.trans k8 (fun i e => .inr (spot i e).1)
  have hs := h.own.t.lt
  have hs2 := h.own.r.lt
  have z6 : Holds ((wx.setCell ⟨s, 0, none⟩ (.int .i64 L.n)).setCell ⟨s, 1, none⟩ (.slice a2 len2 cap2)) w3.heap.size z c := hz.keep k6 (fun j hj => hz.other ox.t (by decide) (by decide) j hj)
  have z7 := z6.keep_net n6 hi k7
  have z8 := z7.keep k8 (fun b hb e => by have := (z7.lt hb).1; have := (spot b e).2; omega)
  have x8 := hx.keep k8 (fun b hb e => by have := (hx.lt hb).1; have := (spot b e).2; have := kx.size; omega)
  have r6 : RefAt ((wx.setCell ⟨s, 0, none⟩ (.int .i64 L.n)).setCell ⟨s, 1, none⟩ (.slice a2 len2 cap2)) b2 a2 len2 cap2 (ps.map Prod.fst ++ [⟨o.frm, o.dest, z⟩]) := hR.keep k6 (fun j hj e => owns_ne hR.row ox.t (by decide) hj e)
  have r7 : RefAt w7 b2 a2 len2 cap2 (ps.map Prod.fst ++ [⟨o.frm, o.dest, z⟩]) := r6.keep k7 (fun j hj e => by
    obtain ⟨cur, hc⟩ := owns_cells r6.row hj
    obtain ⟨s', r', hc'⟩ := n6.ch i hi
    rw [e] at hc
    rw [hc] at hc'
    simp at hc')
  have r8 : RefAt w8 b2 a2 len2 cap2 (ps.map Prod.fst ++ [⟨o.frm, o.dest, z⟩]) := r7.keep k8 (fun j hj e => by
    obtain ⟨cur, hc⟩ := owns_cells r7.row hj
    exact h7.odd (hy.spot e) ⟨_, _, hc, by decide, by decide⟩)
  have n8 := hN.keep k8 (fun b hb e => by have := (h.above _ hb).2; have := (spot b e).1; omega)
  refine ⟨h.st.send hr n8 (Holds.past h.st.net kall (fun b hb e => ?_)) x8 z8 (by have := kr.size; omega) (by have := k3.size; omega) h.low.size (fun b hb hb' => ?_) hf, by rw [List.map_append]; exact r8, by have := h.many; omega, ?_, h.low.trans (kall.below h.low.size (fun b hb e => by have := h.zero; omega)), h.above, h.zero, h.low2, fun b vs hb => (h.same b vs hb).keep kall (fun e => ?_)⟩
  · rcases e with e | e
    · subst e; exact .inr ⟨_, _, h.own.t, by decide, by decide⟩
    · exact .inl ⟨i, hi, e⟩
  · have := (hx.lt hb).1
    have := (hz.lt hb').2
    omega
  · have o6 : Own3 ((wx.setCell ⟨s, 0, none⟩ (.int .i64 L.n)).setCell ⟨s, 1, none⟩ (.slice a2 len2 cap2)) s [.int .i64 L.n, .slice a2 len2 cap2] o.cells [.int .i64 0, .slice none 0 0] :=
      ⟨bt, ox.o.keep k6 (by omega), ox.r.keep k6 (by omega)⟩
    exact (o6.keep k7 (fun b h1 h2 e => by omega)).keep k8 (fun b h1 h2 e => by have := (spot b e).1; omega)
  · rcases e with e | e
    · have := hb.lt; have := h.low2; omega
    · obtain ⟨s', r', hc⟩ := h.st.net.ch i hi
      have := h.same b vs hb
      rw [e] at this
      unfold Blk at this
      rw [hc] at this
      simp at this

end Go.Proofs.Ytgphlopbbmjdhaa
