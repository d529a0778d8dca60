/- The list of steps opened: what the reading of the argument says of its cells, and of the lists of each message. -/
import Derived.Test.YtgphlopbbmjdhaaOps
import Derived.ProofKit
import Derived.OpenShut
import Derived.Deep.Slices
namespace Go.Proofs.Ytgphlopbbmjdhaa
open Go.ChangeShapes Go.WideShapes Go.ChangeAt Go.RowKit Go.Deep
set_option linter.unusedVariables false
set_option linter.unusedSimpArgs false

/-- The cells of a list of wants; of a list of pages. -/
def wcells (ws : List (ByteArray × Int)) : List Value := ws.flatMap fun p => [.string p.1, .int .i64 p.2]
def pcells (ps : List Int) : List Value := ps.map (Value.int .i64)

theorem wcells_length (ws : List (ByteArray × Int)) : (wcells ws).length = ws.length * 2 := by
  induction ws with
  | nil => rfl
  | cons p r ih => simp only [wcells, List.flatMap_cons, List.length_append] at ih ⊢; rw [ih]; simp; omega
theorem pcells_length (ps : List Int) : (pcells ps).length = ps.length * 1 := by simp [pcells]

theorem wcells_one (ws : List (ByteArray × Int)) : ∀ u ∈ wcells ws, u.oneCell' = true := by
  intro u hu
  simp only [wcells, List.mem_flatMap] at hu
  obtain ⟨p, _, hp⟩ := hu
  simp at hp
  rcases hp with rfl | rfl <;> rfl
theorem pcells_one (ps : List Int) : ∀ u ∈ pcells ps, u.oneCell' = true := by
  intro u hu
  simp only [pcells, List.mem_map] at hu
  obtain ⟨p, _, rfl⟩ := hu
  rfl

theorem wcells_at (ws : List (ByteArray × Int)) (i : Nat) (h : i < ws.length) : (wcells ws)[i * 2]? = some (.string ws[i].1) ∧ (wcells ws)[i * 2 + 1]? = some (.int .i64 ws[i].2) := by
  induction ws generalizing i with
  | nil => simp at h
  | cons p r ih =>
    have e : wcells (p :: r) = .string p.1 :: .int .i64 p.2 :: wcells r := rfl
    rw [e]
    cases i with
    | zero => simp
    | succ i =>
      have := ih i (by simpa using h)
      rw [show (i + 1) * 2 = i * 2 + 1 + 1 by omega]
      simpa using this

/-- What the message of a step leads to. -/
def MsgOk (w : World) (m : Qm) : Prop := ∃ ws ps, Src w m.wa m.wl m.wc 2 (wcells ws) ∧ Src w m.pa m.pl m.pc 1 (pcells ps)

theorem Src.below {w wr : World} {a : Option Addr} {m c size : Nat} {xs : List Value} (h : Src w a m c size xs) (hb : Below w.heap.size w wr) : Src wr a m c size xs := by
  rcases h with h | ⟨ad, rfl, hl, hc, h1⟩
  · exact .inl h
  · exact .inr ⟨ad, rfl, hl, fun j u hu => (hb.cell (World.block_lt_of_cell? _ _ (hc j u hu))).trans (hc j u hu), h1⟩

theorem MsgOk.below {w wr : World} {m : Qm} (h : MsgOk w m) (hb : Below w.heap.size w wr) : MsgOk wr m := by
  obtain ⟨ws, ps, h1, h2⟩ := h
  exact ⟨ws, ps, h1.below hb, h2.below hb⟩

theorem k3 : Try.prog.cellsOf 3 = 1 := by kernel_rfl
theorem k4 : Try.prog.cellsOf 4 = 1 := by kernel_rfl
theorem k29 : Try.prog.cellsOf 29 = 1 := by kernel_rfl
theorem k30 : Try.prog.cellsOf 30 = 1 := by kernel_rfl
theorem k31 : Try.prog.cellsOf 31 = 1 := by kernel_rfl
theorem k9 : Try.prog.cellsOf 9 = 1 := by kernel_rfl
theorem k65 : Try.prog.cellsOf 65 = 1 := by kernel_rfl
theorem k33 : Try.prog.cellsOf 33 = 9 := by kernel_rfl
theorem k41 : Try.prog.cellsOf 41 = 13 := by kernel_rfl
theorem k67 : Try.prog.cellsOf 67 = 2 := by kernel_rfl

section
variable {H : Type} {enc : TypeId × Value → H} {w : World} {base : Nat} {spare : Nat → Bool} {held : Bool}

theorem open_wants {fuel : Nat} {v : Value} {x : DataW H × List MemPlace} (h : DataW.trod enc Try.prog w base spare held fuel 30 [v] = some x) :
    ∃ a l c ws, v = .slice a l c ∧ Src w a l c 2 (wcells ws) := by
  rcases open_slice Try.underlying30 h with ⟨hcs, _⟩ | ⟨a, len, cap, m, n, D, Pl, hcs, hb, hl, hm, hmm, _, hi⟩
  · simp at hcs; subst hcs
    exact ⟨none, 0, 0, [], rfl, .inl ⟨rfl, rfl, rfl, rfl⟩⟩
  · simp at hcs; subst hcs
    have hle : len ≤ m := by rw [hmm]; split <;> omega
    have hone : ∀ i, i < len → ∃ p : ByteArray × Int, w.cell? (a.add (i * 2)) = some (.string p.1) ∧ w.cell? (a.add (i * 2 + 1)) = some (.int .i64 p.2) := fun i hil => by
      obtain ⟨cs', hc, ht⟩ := hi i (by omega)
      rw [k67] at hc
      obtain ⟨_, hcl, hat⟩ := World.cells?_some hc
      obtain ⟨xs, n', _, _, _, hxl, hf⟩ := DataW.trod_struct Try.underlying67 ht
      match cs', hcl with
      | [c0, c1], _ =>
        have f0 : DataW.trod enc Try.prog w base spare held n' 9 (List.take (Try.prog.cellsOf 9) [c0, c1]) = xs[0]? := hf 0 _ rfl
        have f1 : DataW.trod enc Try.prog w base spare held n' 65 (List.take (Try.prog.cellsOf 65) [c1]) = xs[1]? := hf 1 _ rfl
        rw [k9] at f0
        rw [k65] at f1
        simp only [List.take_succ_cons, List.take_zero] at f0 f1
        have hxl : xs.length = 2 := hxl
        obtain ⟨y0, e0⟩ : ∃ y, xs[0]? = some y := ⟨_, List.getElem?_eq_getElem (by omega)⟩
        obtain ⟨y1, e1⟩ : ∃ y, xs[1]? = some y := ⟨_, List.getElem?_eq_getElem (by omega)⟩
        rw [e0] at f0
        rw [e1] at f1
        obtain ⟨s, hs, _⟩ := DataW.trod_string Try.underlying9 f0
        obtain ⟨z, hz, _⟩ := DataW.trod_int Try.underlying65 f1
        simp only [List.cons.injEq, and_true] at hs hz
        subst hs
        subst hz
        have a0 := hat 0 (by omega)
        have a1 := hat 1 (by omega)
        rw [Go.Deep.add_add] at a0 a1
        exact ⟨(s, z), by simpa using a0, by simpa using a1⟩
    obtain ⟨f, hfn⟩ := choose_lt (α := ByteArray × Int) hone
    refine ⟨_, _, _, (List.range len).map f, rfl, .inr ⟨a, rfl, by rw [wcells_length]; simp, fun j u hu => ?_, wcells_one _⟩⟩
    have hlen : j < len * 2 := by
      have := (List.getElem?_eq_some_iff.1 hu).1
      rw [wcells_length] at this; simpa using this
    obtain ⟨r0, r1⟩ := wcells_at ((List.range len).map f) (j / 2) (by simp; omega)
    obtain ⟨q0, q1⟩ := hfn (j / 2) (by omega)
    rcases Nat.mod_two_eq_zero_or_one j with e | e
    · rw [show j / 2 * 2 = j by omega] at r0 q0
      rw [hu] at r0
      rw [q0]; simpa using r0.symm
    · rw [show j / 2 * 2 + 1 = j by omega] at r1 q1
      rw [hu] at r1
      rw [q1]; simpa using r1.symm

theorem open_pages {fuel : Nat} {v : Value} {x : DataW H × List MemPlace} (h : DataW.trod enc Try.prog w base spare held fuel 31 [v] = some x) :
    ∃ a l c ps, v = .slice a l c ∧ Src w a l c 1 (pcells ps) := by
  rcases open_ints Try.underlying31 Try.underlying3 (by kernel_rfl) h with ⟨hcs, _⟩ | ⟨x, l, c, zs, hcs, _, hl, hm, hz, _, hcell, hwz⟩
  · simp at hcs; subst hcs
    exact ⟨none, 0, 0, [], rfl, .inl ⟨rfl, rfl, rfl, rfl⟩⟩
  · simp at hcs; subst hcs
    have hzl : l ≤ zs.length := by rw [hz]; split <;> omega
    refine ⟨_, _, _, zs.take l, rfl, .inr ⟨x, rfl, by rw [pcells_length]; simp; omega, fun j u hu => ?_, pcells_one _⟩⟩
    have hj : j < (zs.take l).length := by
      have := (List.getElem?_eq_some_iff.1 hu).1
      simpa [pcells] using this
    rw [hcell j (by simp at hj; omega)]
    simp only [pcells, List.getElem?_map, List.getElem?_eq_getElem hj, Option.map_some, Option.some.injEq] at hu
    rw [← hu]
    simp at hj
    simp [List.getElem?_eq_getElem (show j < zs.length by omega)]

theorem open_op {fuel : Nat} {cs : List Value} {x : DataW H × List MemPlace} (h : DataW.trod enc Try.prog w base spare held fuel 41 cs = some x) :
    ∃ v : OpV, cs = [.int .i64 v.kind, .int .i64 v.frm, .int .i64 v.dest, .int .i64 v.n, .int .i64 v.m.kind, .int .i64 v.m.txn, .int .i64 v.m.page, .int .i64 v.m.dst, .bool v.m.fast, .int .u64 v.m.lsn, .slice v.m.wa v.m.wl v.m.wc, .slice v.m.pa v.m.pl v.m.pc, .string v.m.body] ∧ MsgOk w v.m := by
  obtain ⟨xs, n', _, _, hlen, hxl, hf⟩ := DataW.trod_struct Try.underlying41 h
  rw [k41] at hlen
  match cs, hlen with
  | [c0, c1, c2, c3, c4, c5, c6, c7, c8, c9, c10, c11, c12], _ =>
    have f0 : DataW.trod enc Try.prog w base spare held n' 3 (List.take (Try.prog.cellsOf 3) [c0, c1, c2, c3, c4, c5, c6, c7, c8, c9, c10, c11, c12]) = xs[0]? := hf 0 _ rfl
    have f1 : DataW.trod enc Try.prog w base spare held n' 3 (List.take (Try.prog.cellsOf 3) [c1, c2, c3, c4, c5, c6, c7, c8, c9, c10, c11, c12]) = xs[1]? := hf 1 _ rfl
    have f2 : DataW.trod enc Try.prog w base spare held n' 3 (List.take (Try.prog.cellsOf 3) [c2, c3, c4, c5, c6, c7, c8, c9, c10, c11, c12]) = xs[2]? := hf 2 _ rfl
    have f3 : DataW.trod enc Try.prog w base spare held n' 3 (List.take (Try.prog.cellsOf 3) [c3, c4, c5, c6, c7, c8, c9, c10, c11, c12]) = xs[3]? := hf 3 _ rfl
    have f4 : DataW.trod enc Try.prog w base spare held n' 33 (List.take (Try.prog.cellsOf 33) [c4, c5, c6, c7, c8, c9, c10, c11, c12]) = xs[4]? := hf 4 _ rfl
    rw [k3] at f0 f1 f2 f3
    rw [k33] at f4
    simp only [List.take_succ_cons, List.take_zero] at f0 f1 f2 f3 f4
    have hxl : xs.length = 5 := hxl
    rw [List.getElem?_eq_getElem (by omega)] at f0 f1 f2 f3 f4
    obtain ⟨z0, h0, _⟩ := DataW.trod_int Try.underlying3 f0
    obtain ⟨z1, h1, _⟩ := DataW.trod_int Try.underlying3 f1
    obtain ⟨z2, h2, _⟩ := DataW.trod_int Try.underlying3 f2
    obtain ⟨z3, h3, _⟩ := DataW.trod_int Try.underlying3 f3
    simp only [List.cons.injEq, and_true] at h0 h1 h2 h3
    subst h0 h1 h2 h3
    obtain ⟨ys, n2, _, _, _, hyl, hg⟩ := DataW.trod_struct Try.underlying33 f4
    have g0 : DataW.trod enc Try.prog w base spare held n2 3 (List.take (Try.prog.cellsOf 3) [c4, c5, c6, c7, c8, c9, c10, c11, c12]) = ys[0]? := hg 0 _ rfl
    have g1 : DataW.trod enc Try.prog w base spare held n2 3 (List.take (Try.prog.cellsOf 3) [c5, c6, c7, c8, c9, c10, c11, c12]) = ys[1]? := hg 1 _ rfl
    have g2 : DataW.trod enc Try.prog w base spare held n2 3 (List.take (Try.prog.cellsOf 3) [c6, c7, c8, c9, c10, c11, c12]) = ys[2]? := hg 2 _ rfl
    have g3 : DataW.trod enc Try.prog w base spare held n2 3 (List.take (Try.prog.cellsOf 3) [c7, c8, c9, c10, c11, c12]) = ys[3]? := hg 3 _ rfl
    have g4 : DataW.trod enc Try.prog w base spare held n2 4 (List.take (Try.prog.cellsOf 4) [c8, c9, c10, c11, c12]) = ys[4]? := hg 4 _ rfl
    have g5 : DataW.trod enc Try.prog w base spare held n2 29 (List.take (Try.prog.cellsOf 29) [c9, c10, c11, c12]) = ys[5]? := hg 5 _ rfl
    have g6 : DataW.trod enc Try.prog w base spare held n2 30 (List.take (Try.prog.cellsOf 30) [c10, c11, c12]) = ys[6]? := hg 6 _ rfl
    have g7 : DataW.trod enc Try.prog w base spare held n2 31 (List.take (Try.prog.cellsOf 31) [c11, c12]) = ys[7]? := hg 7 _ rfl
    have g8 : DataW.trod enc Try.prog w base spare held n2 9 (List.take (Try.prog.cellsOf 9) [c12]) = ys[8]? := hg 8 _ rfl
    rw [k3] at g0 g1 g2 g3
    rw [k4] at g4
    rw [k29] at g5
    rw [k30] at g6
    rw [k31] at g7
    rw [k9] at g8
    simp only [List.take_succ_cons, List.take_zero] at g0 g1 g2 g3 g4 g5 g6 g7 g8
    have hyl : ys.length = 9 := hyl
    rw [List.getElem?_eq_getElem (by omega)] at g0 g1 g2 g3 g4 g5 g6 g7 g8
    obtain ⟨m0, e0, _⟩ := DataW.trod_int Try.underlying3 g0
    obtain ⟨m1, e1, _⟩ := DataW.trod_int Try.underlying3 g1
    obtain ⟨m2, e2, _⟩ := DataW.trod_int Try.underlying3 g2
    obtain ⟨m3, e3, _⟩ := DataW.trod_int Try.underlying3 g3
    obtain ⟨m4, e4, _⟩ := DataW.trod_bool Try.underlying4 g4
    obtain ⟨m5, e5, _⟩ := DataW.trod_int Try.underlying29 g5
    obtain ⟨wa, wl, wc, ws, e6, hw⟩ := open_wants g6
    obtain ⟨pa, pl, pc, ps, e7, hp⟩ := open_pages g7
    obtain ⟨s, e8, _⟩ := DataW.trod_string Try.underlying9 g8
    simp only [List.cons.injEq, and_true] at e0 e1 e2 e3 e4 e5 e8
    subst e0 e1 e2 e3 e4 e5 e6 e7 e8
    exact ⟨⟨z0, z1, z2, z3, ⟨m0, m1, m2, m3, m4, m5, wa, wl, wc, pa, pl, pc, s⟩⟩, rfl, ws, ps, hw, hp⟩

instance : Inhabited OpV := ⟨⟨0, 0, 0, 0, plain 0 0 ⟨#[]⟩⟩⟩

theorem open_ops {fuel : Nat} {a : Option Addr} {len cap : Nat} {x : DataW H × List MemPlace} (h : DataW.trod enc Try.prog w base spare held fuel 39 [.slice a len cap] = some x) :
    ∃ ops, ArgOps w a len ops ∧ len ≤ 9223372036854775807 ∧ ∀ j, j < len → MsgOk w (ops j).m := by
  rcases open_slice Try.underlying39 h with ⟨hcs, _⟩ | ⟨a', len', cap', m, n, D, Pl, hcs, hb, hl, hm, hmm, _, hi⟩
  · simp at hcs
    obtain ⟨rfl, rfl, rfl⟩ := hcs
    exact ⟨default, .inl rfl, by omega, fun j hj => by omega⟩
  · simp at hcs
    obtain ⟨rfl, rfl, rfl⟩ := hcs
    have hle : len ≤ m := by rw [hmm]; split <;> omega
    unfold maxLen at hm
    have hone : ∀ i, i < len → ∃ v : OpV, w.cells? base (a'.add (i * 13)) 13 = some [.int .i64 v.kind, .int .i64 v.frm, .int .i64 v.dest, .int .i64 v.n, .int .i64 v.m.kind, .int .i64 v.m.txn, .int .i64 v.m.page, .int .i64 v.m.dst, .bool v.m.fast, .int .u64 v.m.lsn, .slice v.m.wa v.m.wl v.m.wc, .slice v.m.pa v.m.pl v.m.pc, .string v.m.body] ∧ MsgOk w v.m := fun i hil => by
      obtain ⟨cs', hc, ht⟩ := hi i (by omega)
      rw [k41] at hc
      obtain ⟨v, rfl, hv⟩ := open_op ht
      exact ⟨v, hc, hv⟩
    obtain ⟨ops, hops⟩ := choose_lt (α := OpV) hone
    refine ⟨ops, ?_, by omega, fun j hj => (hops j hj).2⟩
    by_cases hl0 : len = 0
    · exact .inl hl0
    · obtain ⟨b, off, spot⟩ := a'
      have hspot : spot = none := by
        obtain ⟨_, _, hat⟩ := World.cells?_some (hops 0 (by omega)).1
        have := hat 0 (by omega)
        simpa [Addr.add] using World.cell?_spot this
      subst hspot
      refine .inr ⟨b, off, rfl, fun j hj => ?_⟩
      obtain ⟨_, _, hat⟩ := World.cells?_some (hops j hj).1
      have key := fun (i : Nat) (hi : i < 13) => (congrArg w.cell? (show (((⟨b, off, none⟩ : Addr).add (j * 13)).add i) = ⟨b, off + j * 13 + i, none⟩ from by rw [Go.Deep.add_add, Go.WideShapes.add_plain, ← Nat.add_assoc])).symm.trans (hat i hi)
      exact ⟨key 0 (by omega), key 1 (by omega), key 2 (by omega), key 3 (by omega), key 4 (by omega), key 5 (by omega), key 6 (by omega), key 7 (by omega), key 8 (by omega), key 9 (by omega), key 10 (by omega), key 11 (by omega), key 12 (by omega)⟩
end

end Go.Proofs.Ytgphlopbbmjdhaa
