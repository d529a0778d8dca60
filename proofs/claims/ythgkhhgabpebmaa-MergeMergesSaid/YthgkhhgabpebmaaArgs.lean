/- The laws' arguments opened: what their reading says of their cells. -/
import Derived.Test.YthgkhhgabpebmaaLogs
import Derived.ProofKit
import Derived.OpenShut
import Derived.Deep.Slices
namespace Go.Proofs.Ythgkhhgabpebmaa
open Go.ChangeShapes Go.WideShapes Go.ChangeAt Go.RowKit Go.Deep
set_option linter.unusedVariables false
set_option linter.unusedSimpArgs false

theorem k3 : Try.prog.cellsOf 3 = 1 := by kernel_rfl
theorem k49 : Try.prog.cellsOf 49 = 1 := by kernel_rfl
theorem k52 : Try.prog.cellsOf 52 = 1 := by kernel_rfl
theorem k53 : Try.prog.cellsOf 53 = 1 := by kernel_rfl
theorem k9 : Try.prog.cellsOf 9 = 1 := by kernel_rfl
theorem k55 : Try.prog.cellsOf 55 = 4 := by kernel_rfl
theorem k56 : Try.prog.cellsOf 56 = 1 := by kernel_rfl
theorem k57 : Try.prog.cellsOf 57 = 1 := by kernel_rfl
theorem k59 : Try.prog.cellsOf 59 = 12 := by kernel_rfl
theorem k61 : Try.prog.cellsOf 61 = 1 := by kernel_rfl
theorem k63 : Try.prog.cellsOf 63 = 3 := by kernel_rfl
theorem k65 : Try.prog.cellsOf 65 = 2 := by kernel_rfl
theorem k25 : Try.prog.cellsOf 25 = 1 := by kernel_rfl

section
variable {H : Type} {enc : TypeId × Value → H} {w : World} {base : Nat} {spare : Nat → Bool} {held : Bool}

theorem choose_list {α : Type} {n : Nat} {P : Nat → α → Prop} (h : ∀ i, i < n → ∃ x, P i x) : ∃ xs : List α, xs.length = n ∧ ∀ i x, xs[i]? = some x → P i x := by
  induction n with
  | zero => exact ⟨[], rfl, fun i x hx => by simp at hx⟩
  | succ n ih =>
    obtain ⟨xs, hl, hx⟩ := ih (fun i hi => h i (by omega))
    obtain ⟨x, hP⟩ := h n (by omega)
    refine ⟨xs ++ [x], by simp [hl], fun i y hy => ?_⟩
    rw [List.getElem?_append] at hy
    split at hy
    · exact hx i y hy
    · have hi : i < (xs ++ [x]).length := by
        rcases Nat.lt_or_ge i (xs ++ [x]).length with h | h
        · exact h
        · simp at h
          rw [List.getElem?_eq_none (by simp; omega)] at hy
          simp at hy
      simp at hi
      have e : i = n := by omega
      subst e
      rw [hl] at hy
      simp at hy
      subst hy
      exact hP

theorem open_txns {fuel : Nat} {v : Value} {x : DataW H × List MemPlace} (h : DataW.trod enc Try.prog w base spare held fuel 56 [v] = some x) :
    ∃ a l c ts, v = .slice a l c ∧ Src w a l c 3 (tcells ts) := by
  rcases open_slice Try.underlying56 h with ⟨hcs, _⟩ | ⟨a, len, cap, m, n, D, Pl, hcs, hb, hl, hm, hmm, _, hi⟩
  · simp at hcs; subst hcs
    exact ⟨none, 0, 0, [], rfl, .inl ⟨rfl, rfl, rfl, rfl⟩⟩
  · simp at hcs; subst hcs
    have hle : len ≤ m := by rw [hmm]; split <;> omega
    have hone : ∀ i, i < len → ∃ p : Int × Int × Int, w.cell? (a.add (i * 3)) = some (.int .i64 p.1) ∧ w.cell? (a.add (i * 3 + 1)) = some (.int .i64 p.2.1) ∧ w.cell? (a.add (i * 3 + 2)) = some (.int .u64 p.2.2) := fun i hil => by
      obtain ⟨cs', hc, ht⟩ := hi i (by omega)
      rw [k63] at hc
      obtain ⟨_, hcl, hat⟩ := World.cells?_some hc
      obtain ⟨xs, n', _, _, _, hxl, hf⟩ := DataW.trod_struct Try.underlying63 ht
      match cs', hcl with
      | [c0, c1, c2], _ =>
        have f0 : DataW.trod enc Try.prog w base spare held n' 3 (List.take (Try.prog.cellsOf 3) [c0, c1, c2]) = xs[0]? := hf 0 _ rfl
        have f1 : DataW.trod enc Try.prog w base spare held n' 61 (List.take (Try.prog.cellsOf 61) [c1, c2]) = xs[1]? := hf 1 _ rfl
        have f2 : DataW.trod enc Try.prog w base spare held n' 49 (List.take (Try.prog.cellsOf 49) [c2]) = xs[2]? := hf 2 _ rfl
        rw [k3] at f0
        rw [k61] at f1
        rw [k49] at f2
        simp only [List.take_succ_cons, List.take_zero] at f0 f1 f2
        have hxl : xs.length = 3 := hxl
        rw [List.getElem?_eq_getElem (by omega)] at f0 f1 f2
        obtain ⟨z0, h0, _⟩ := DataW.trod_int Try.underlying3 f0
        obtain ⟨z1, h1, _⟩ := DataW.trod_int Try.underlying61 f1
        obtain ⟨z2, h2, _⟩ := DataW.trod_int Try.underlying49 f2
        simp only [List.cons.injEq, and_true] at h0 h1 h2
        subst h0 h1 h2
        have a0 := hat 0 (by omega)
        have a1 := hat 1 (by omega)
        have a2 := hat 2 (by omega)
        rw [Go.Deep.add_add] at a0 a1 a2
        exact ⟨(z0, z1, z2), by simpa using a0, by simpa using a1, by simpa using a2⟩
    obtain ⟨ts, htl, hts⟩ := choose_list hone
    refine ⟨_, _, _, ts, rfl, .inr ⟨a, rfl, by rw [tcells_length, htl], fun j u hu => ?_, tcells_one _⟩⟩
    have hj : j < len * 3 := by
      have := (List.getElem?_eq_some_iff.1 hu).1
      rw [tcells_length, htl] at this; exact this
    obtain ⟨p, hp⟩ : ∃ p, ts[j / 3]? = some p := ⟨_, List.getElem?_eq_getElem (by omega)⟩
    obtain ⟨q0, q1, q2⟩ := hts (j / 3) p hp
    obtain ⟨r0, r1, r2⟩ := tcells_at ts (j / 3) p hp
    rcases (by omega : j / 3 * 3 = j ∨ j / 3 * 3 + 1 = j ∨ j / 3 * 3 + 2 = j) with e | e | e
    · rw [e] at q0 r0; rw [hu] at r0; rw [q0]; exact r0.symm
    · rw [e] at q1 r1; rw [hu] at r1; rw [q1]; exact r1.symm
    · rw [e] at q2 r2; rw [hu] at r2; rw [q2]; exact r2.symm

theorem open_dirty {fuel : Nat} {v : Value} {x : DataW H × List MemPlace} (h : DataW.trod enc Try.prog w base spare held fuel 57 [v] = some x) :
    ∃ a l c ds, v = .slice a l c ∧ Src w a l c 2 (dcells ds) := by
  rcases open_slice Try.underlying57 h with ⟨hcs, _⟩ | ⟨a, len, cap, m, n, D, Pl, hcs, hb, hl, hm, hmm, _, hi⟩
  · simp at hcs; subst hcs
    exact ⟨none, 0, 0, [], rfl, .inl ⟨rfl, rfl, rfl, rfl⟩⟩
  · simp at hcs; subst hcs
    have hle : len ≤ m := by rw [hmm]; split <;> omega
    have hone : ∀ i, i < len → ∃ p : Int × Int, w.cell? (a.add (i * 2)) = some (.int .i64 p.1) ∧ w.cell? (a.add (i * 2 + 1)) = some (.int .u64 p.2) := fun i hil => by
      obtain ⟨cs', hc, ht⟩ := hi i (by omega)
      rw [k65] at hc
      obtain ⟨_, hcl, hat⟩ := World.cells?_some hc
      obtain ⟨xs, n', _, _, _, hxl, hf⟩ := DataW.trod_struct Try.underlying65 ht
      match cs', hcl with
      | [c0, c1], _ =>
        have f0 : DataW.trod enc Try.prog w base spare held n' 3 (List.take (Try.prog.cellsOf 3) [c0, c1]) = xs[0]? := hf 0 _ rfl
        have f1 : DataW.trod enc Try.prog w base spare held n' 49 (List.take (Try.prog.cellsOf 49) [c1]) = xs[1]? := hf 1 _ rfl
        rw [k3] at f0
        rw [k49] at f1
        simp only [List.take_succ_cons, List.take_zero] at f0 f1
        have hxl : xs.length = 2 := hxl
        rw [List.getElem?_eq_getElem (by omega)] at f0 f1
        obtain ⟨z0, h0, _⟩ := DataW.trod_int Try.underlying3 f0
        obtain ⟨z1, h1, _⟩ := DataW.trod_int Try.underlying49 f1
        simp only [List.cons.injEq, and_true] at h0 h1
        subst h0 h1
        have a0 := hat 0 (by omega)
        have a1 := hat 1 (by omega)
        rw [Go.Deep.add_add] at a0 a1
        exact ⟨(z0, z1), by simpa using a0, by simpa using a1⟩
    obtain ⟨ts, htl, hts⟩ := choose_list hone
    refine ⟨_, _, _, ts, rfl, .inr ⟨a, rfl, by rw [dcells_length, htl], fun j u hu => ?_, dcells_one _⟩⟩
    have hj : j < len * 2 := by
      have := (List.getElem?_eq_some_iff.1 hu).1
      rw [dcells_length, htl] at this; exact this
    obtain ⟨p, hp⟩ : ∃ p, ts[j / 2]? = some p := ⟨_, List.getElem?_eq_getElem (by omega)⟩
    obtain ⟨q0, q1⟩ := hts (j / 2) p hp
    obtain ⟨r0, r1⟩ := dcells_at ts (j / 2) p hp
    rcases (by omega : j / 2 * 2 = j ∨ j / 2 * 2 + 1 = j) with e | e
    · rw [e] at q0 r0; rw [hu] at r0; rw [q0]; exact r0.symm
    · rw [e] at q1 r1; rw [hu] at r1; rw [q1]; exact r1.symm

theorem open_rec {fuel : Nat} {cs : List Value} {x : DataW H × List MemPlace} (h : DataW.trod enc Try.prog w base spare held fuel 59 cs = some x) : ∃ (q : Rq) (c : RC), cs = q.cells ∧ Reads w q c := by
  obtain ⟨xs, n', _, _, hlen, hxl, hf⟩ := DataW.trod_struct Try.underlying59 h
  rw [k59] at hlen
  match cs, hlen with
  | [c0, c1, c2, c3, c4, c5, c6, c7, c8, c9, c10, c11], _ =>
    have f0 : DataW.trod enc Try.prog w base spare held n' 52 (List.take (Try.prog.cellsOf 52) [c0, c1, c2, c3, c4, c5, c6, c7, c8, c9, c10, c11]) = xs[0]? := hf 0 _ rfl
    have f1 : DataW.trod enc Try.prog w base spare held n' 49 (List.take (Try.prog.cellsOf 49) [c1, c2, c3, c4, c5, c6, c7, c8, c9, c10, c11]) = xs[1]? := hf 1 _ rfl
    have f2 : DataW.trod enc Try.prog w base spare held n' 3 (List.take (Try.prog.cellsOf 3) [c2, c3, c4, c5, c6, c7, c8, c9, c10, c11]) = xs[2]? := hf 2 _ rfl
    have f3 : DataW.trod enc Try.prog w base spare held n' 49 (List.take (Try.prog.cellsOf 49) [c3, c4, c5, c6, c7, c8, c9, c10, c11]) = xs[3]? := hf 3 _ rfl
    have f4 : DataW.trod enc Try.prog w base spare held n' 49 (List.take (Try.prog.cellsOf 49) [c4, c5, c6, c7, c8, c9, c10, c11]) = xs[4]? := hf 4 _ rfl
    have f5 : DataW.trod enc Try.prog w base spare held n' 3 (List.take (Try.prog.cellsOf 3) [c5, c6, c7, c8, c9, c10, c11]) = xs[5]? := hf 5 _ rfl
    have f6 : DataW.trod enc Try.prog w base spare held n' 55 (List.take (Try.prog.cellsOf 55) [c6, c7, c8, c9, c10, c11]) = xs[6]? := hf 6 _ rfl
    have f7 : DataW.trod enc Try.prog w base spare held n' 56 (List.take (Try.prog.cellsOf 56) [c10, c11]) = xs[7]? := hf 7 _ rfl
    have f8 : DataW.trod enc Try.prog w base spare held n' 57 (List.take (Try.prog.cellsOf 57) [c11]) = xs[8]? := hf 8 _ rfl
    rw [k52] at f0
    rw [k49] at f1 f3 f4
    rw [k3] at f2 f5
    rw [k55] at f6
    rw [k56] at f7
    rw [k57] at f8
    simp only [List.take_succ_cons, List.take_zero] at f0 f1 f2 f3 f4 f5 f6 f7 f8
    have hxl : xs.length = 9 := hxl
    rw [List.getElem?_eq_getElem (by omega)] at f0 f1 f2 f3 f4 f5 f6 f7 f8
    obtain ⟨z0, h0, _⟩ := DataW.trod_int Try.underlying52 f0
    obtain ⟨z1, h1, _⟩ := DataW.trod_int Try.underlying49 f1
    obtain ⟨z2, h2, _⟩ := DataW.trod_int Try.underlying3 f2
    obtain ⟨z3, h3, _⟩ := DataW.trod_int Try.underlying49 f3
    obtain ⟨z4, h4, _⟩ := DataW.trod_int Try.underlying49 f4
    obtain ⟨z5, h5, _⟩ := DataW.trod_int Try.underlying3 f5
    simp only [List.cons.injEq, and_true] at h0 h1 h2 h3 h4 h5
    subst h0 h1 h2 h3 h4 h5
    obtain ⟨ys, n2, _, _, _, hyl, hg⟩ := DataW.trod_struct Try.underlying55 f6
    have g0 : DataW.trod enc Try.prog w base spare held n2 53 (List.take (Try.prog.cellsOf 53) [c6, c7, c8, c9]) = ys[0]? := hg 0 _ rfl
    have g1 : DataW.trod enc Try.prog w base spare held n2 9 (List.take (Try.prog.cellsOf 9) [c7, c8, c9]) = ys[1]? := hg 1 _ rfl
    have g2 : DataW.trod enc Try.prog w base spare held n2 9 (List.take (Try.prog.cellsOf 9) [c8, c9]) = ys[2]? := hg 2 _ rfl
    have g3 : DataW.trod enc Try.prog w base spare held n2 9 (List.take (Try.prog.cellsOf 9) [c9]) = ys[3]? := hg 3 _ rfl
    rw [k53] at g0
    rw [k9] at g1 g2 g3
    simp only [List.take_succ_cons, List.take_zero] at g0 g1 g2 g3
    have hyl : ys.length = 4 := hyl
    rw [List.getElem?_eq_getElem (by omega)] at g0 g1 g2 g3
    obtain ⟨a0, e0, _⟩ := DataW.trod_int Try.underlying53 g0
    obtain ⟨a1, e1, _⟩ := DataW.trod_string Try.underlying9 g1
    obtain ⟨a2, e2, _⟩ := DataW.trod_string Try.underlying9 g2
    obtain ⟨a3, e3, _⟩ := DataW.trod_string Try.underlying9 g3
    simp only [List.cons.injEq, and_true] at e0 e1 e2 e3
    subst e0 e1 e2 e3
    obtain ⟨ta, tl, tc, ts, e4, ht⟩ := open_txns f7
    obtain ⟨da, dl, dc, ds, e5, hd⟩ := open_dirty f8
    subst e4 e5
    exact ⟨⟨z0, z1, z2, z3, z4, z5, a0, a1, a2, a3, ta, tl, tc, da, dl, dc⟩, ⟨z0, z1, z2, z3, z4, z5, a0, a1, a2, a3, ts, ds⟩, rfl, ⟨rfl, rfl, rfl, rfl, rfl, rfl, rfl, rfl, rfl, rfl⟩, ht, hd⟩

theorem open_recs {fuel : Nat} {v : Value} {x : DataW H × List MemPlace} (h : DataW.trod enc Try.prog w base spare held fuel 25 [v] = some x) :
    ∃ a l c cs, v = .slice a l c ∧ Recs w a l cs ∧ l ≤ c ∧ c ≤ 9223372036854775807 ∧ (a = none → c = 0) := by
  rcases open_slice Try.underlying25 h with ⟨hcs, _⟩ | ⟨a, len, cap, m, n, D, Pl, hcs, hb, hl, hm, hmm, _, hi⟩
  · simp at hcs; subst hcs
    exact ⟨none, 0, 0, [], rfl, Recs.nil _ _, Nat.le_refl _, by omega, fun _ => rfl⟩
  · simp at hcs; subst hcs
    have hle : len ≤ m := by rw [hmm]; split <;> omega
    have hone : ∀ i, i < len → ∃ p : Rq × RC, w.cells? base (a.add (i * 12)) 12 = some p.1.cells ∧ Reads w p.1 p.2 := fun i hil => by
      obtain ⟨cs', hc, ht⟩ := hi i (by omega)
      rw [k59] at hc
      obtain ⟨q, c, rfl, hr⟩ := open_rec ht
      exact ⟨(q, c), hc, hr⟩
    obtain ⟨ps, hpl, hps⟩ := choose_list hone
    unfold maxLen at hm
    refine ⟨_, _, _, ps.map Prod.snd, rfl, ⟨by simp [hpl], fun j c hc => ?_⟩, hl, hm, fun h => by simp at h⟩
    rw [List.getElem?_map] at hc
    obtain ⟨p, hp, rfl⟩ := Option.map_eq_some_iff.1 hc
    obtain ⟨h1, h2⟩ := hps j p hp
    obtain ⟨_, _, hat⟩ := World.cells?_some h1
    obtain ⟨b, off, spot⟩ := a
    have hspot : spot = none := by
      obtain ⟨p0, hp0⟩ : ∃ p0, ps[0]? = some p0 := ⟨_, List.getElem?_eq_getElem (by have := (List.getElem?_eq_some_iff.1 hp).1; omega)⟩
      obtain ⟨_, _, hat0⟩ := World.cells?_some (hps 0 p0 hp0).1
      have := hat0 0 (by simp [Rq.cells])
      simpa [Addr.add] using World.cell?_spot this
    subst hspot
    refine ⟨b, off, p.1, rfl, .of_at fun i u hu => ?_, h2⟩
    have hi' : i < p.1.cells.length := (List.getElem?_eq_some_iff.1 hu).1
    have h3 := hat i (by simpa [Rq.cells] using hi')
    rw [Go.Deep.add_add, Go.WideShapes.add_plain, ← Nat.add_assoc] at h3
    rw [h3]
    obtain ⟨_, rfl⟩ := List.getElem?_eq_some_iff.1 hu
    first | rfl | (rw [List.getElem?_eq_getElem hi']) | (simp [List.getElem?_eq_getElem hi'])

theorem open_logs {fuel : Nat} {a : Option Addr} {len cap : Nat} {x : DataW H × List MemPlace} (h : DataW.trod enc Try.prog w base spare held fuel 22 [.slice a len cap] = some x) :
    ∃ ls, Logs w a len ls ∧ len ≤ cap ∧ cap ≤ 9223372036854775807 ∧ (a = none → cap = 0) := by
  rcases open_slice Try.underlying22 h with ⟨hcs, _⟩ | ⟨a', len', cap', m, n, D, Pl, hcs, hb, hl, hm, hmm, _, hi⟩
  · simp at hcs
    obtain ⟨rfl, rfl, rfl⟩ := hcs
    exact ⟨[], ⟨rfl, fun j l h => by simp at h, fun l h => by simp at h, fun l h => by simp at h⟩, Nat.le_refl _, by omega, fun _ => rfl⟩
  · simp at hcs
    obtain ⟨rfl, rfl, rfl⟩ := hcs
    have hle : len ≤ m := by rw [hmm]; split <;> omega
    unfold maxLen at hm
    have hone : ∀ i, i < len → ∃ l : Lg, w.cell? (a'.add i) = some (.slice l.a l.n l.c) ∧ Recs w l.a l.n l.cs ∧ l.n ≤ l.c ∧ l.c ≤ 9223372036854775807 ∧ (l.a = none → l.c = 0) := fun i hil => by
      obtain ⟨cs', hc, ht⟩ := hi i (by omega)
      rw [k25] at hc
      obtain ⟨_, hcl, hat⟩ := World.cells?_some hc
      match cs', hcl with
      | [c0], _ =>
        obtain ⟨b, l, c, cs, rfl, h1, h2, h3, h4⟩ := open_recs ht
        have a0 := hat 0 (by omega)
        rw [Go.Deep.add_add] at a0
        exact ⟨⟨b, l, c, cs⟩, by simpa using a0, h1, h2, h3, h4⟩
    obtain ⟨ls, hll, hls⟩ := choose_list hone
    refine ⟨ls, ⟨hll, fun j l hl => ?_, fun l hl => ?_, fun l hl => ?_⟩, hl, hm, fun h => by simp at h⟩
    · obtain ⟨h1, _⟩ := hls j l hl
      obtain ⟨b, off, spot⟩ := a'
      have hspot : spot = none := by
        obtain ⟨p0, hp0⟩ : ∃ p0, ls[0]? = some p0 := ⟨_, List.getElem?_eq_getElem (by have := (List.getElem?_eq_some_iff.1 hl).1; omega)⟩
        simpa [Addr.add] using World.cell?_spot (hls 0 p0 hp0).1
      subst hspot
      rw [Go.WideShapes.add_plain] at h1
      exact ⟨b, off, rfl, h1⟩
    · obtain ⟨j, hj, rfl⟩ := List.mem_iff_getElem.1 hl
      obtain ⟨_, h2, h3, h4, _⟩ := hls j _ (List.getElem?_eq_getElem hj)
      exact ⟨h2, h3, h4⟩
    · obtain ⟨j, hj, rfl⟩ := List.mem_iff_getElem.1 hl
      exact (hls j _ (List.getElem?_eq_getElem hj)).2.2.2.2

theorem open_nums {fuel : Nat} {a : Option Addr} {len cap : Nat} {x : DataW H × List MemPlace} (h : DataW.trod enc Try.prog w base spare held fuel 31 [.slice a len cap] = some x) :
    ∃ ls : List Int, ls.length = len ∧ (∀ j z, ls[j]? = some z → ∃ g off, a = some ⟨g, off, none⟩ ∧ w.cell? ⟨g, off + j, none⟩ = some (.int .i64 z)) ∧ len ≤ 9223372036854775807 := by
  rcases open_slice Try.underlying31 h with ⟨hcs, _⟩ | ⟨a', len', cap', m, n, D, Pl, hcs, hb, hl, hm, hmm, _, hi⟩
  · simp at hcs
    obtain ⟨rfl, rfl, rfl⟩ := hcs
    exact ⟨[], rfl, fun j z h => by simp at h, by omega⟩
  · simp at hcs
    obtain ⟨rfl, rfl, rfl⟩ := hcs
    have hle : len ≤ m := by rw [hmm]; split <;> omega
    unfold maxLen at hm
    have hone : ∀ i, i < len → ∃ z : Int, w.cell? (a'.add i) = some (.int .i64 z) := fun i hil => by
      obtain ⟨cs', hc, ht⟩ := hi i (by omega)
      rw [k3] at hc
      obtain ⟨_, hcl, hat⟩ := World.cells?_some hc
      match cs', hcl with
      | [c0], _ =>
        obtain ⟨z, hz, _⟩ := DataW.trod_int Try.underlying3 ht
        simp only [List.cons.injEq, and_true] at hz
        subst hz
        have a0 := hat 0 (by omega)
        rw [Go.Deep.add_add] at a0
        exact ⟨z, by simpa using a0⟩
    obtain ⟨ls, hll, hls⟩ := choose_list hone
    refine ⟨ls, hll, fun j z hz => ?_, by omega⟩
    have h1 := hls j z hz
    obtain ⟨b, off, spot⟩ := a'
    have hspot : spot = none := by
      obtain ⟨p0, hp0⟩ : ∃ p0, ls[0]? = some p0 := ⟨_, List.getElem?_eq_getElem (by have := (List.getElem?_eq_some_iff.1 hz).1; omega)⟩
      simpa [Addr.add] using World.cell?_spot (hls 0 p0 hp0)
    subst hspot
    rw [Go.WideShapes.add_plain] at h1
    exact ⟨b, off, rfl, h1⟩

theorem k4 : Try.prog.cellsOf 4 = 1 := by kernel_rfl

theorem open_bits {fuel : Nat} {a : Option Addr} {len cap : Nat} {x : DataW H × List MemPlace} (h : DataW.trod enc Try.prog w base spare held fuel 32 [.slice a len cap] = some x) :
    ∃ ls : List Bool, ls.length = len ∧ (∀ j z, ls[j]? = some z → ∃ g off, a = some ⟨g, off, none⟩ ∧ w.cell? ⟨g, off + j, none⟩ = some (.bool z)) ∧ len ≤ 9223372036854775807 := by
  rcases open_slice Try.underlying32 h with ⟨hcs, _⟩ | ⟨a', len', cap', m, n, D, Pl, hcs, hb, hl, hm, hmm, _, hi⟩
  · simp at hcs
    obtain ⟨rfl, rfl, rfl⟩ := hcs
    exact ⟨[], rfl, fun j z h => by simp at h, by omega⟩
  · simp at hcs
    obtain ⟨rfl, rfl, rfl⟩ := hcs
    have hle : len ≤ m := by rw [hmm]; split <;> omega
    unfold maxLen at hm
    have hone : ∀ i, i < len → ∃ z : Bool, w.cell? (a'.add i) = some (.bool z) := fun i hil => by
      obtain ⟨cs', hc, ht⟩ := hi i (by omega)
      rw [k4] at hc
      obtain ⟨_, hcl, hat⟩ := World.cells?_some hc
      match cs', hcl with
      | [c0], _ =>
        obtain ⟨z, hz, _⟩ := DataW.trod_bool Try.underlying4 ht
        simp only [List.cons.injEq, and_true] at hz
        subst hz
        have a0 := hat 0 (by omega)
        rw [Go.Deep.add_add] at a0
        exact ⟨z, by simpa using a0⟩
    obtain ⟨ls, hll, hls⟩ := choose_list hone
    refine ⟨ls, hll, fun j z hz => ?_, by omega⟩
    have h1 := hls j z hz
    obtain ⟨b, off, spot⟩ := a'
    have hspot : spot = none := by
      obtain ⟨p0, hp0⟩ : ∃ p0, ls[0]? = some p0 := ⟨_, List.getElem?_eq_getElem (by have := (List.getElem?_eq_some_iff.1 hz).1; omega)⟩
      simpa [Addr.add] using World.cell?_spot (hls 0 p0 hp0)
    subst hspot
    rw [Go.WideShapes.add_plain] at h1
    exact ⟨b, off, rfl, h1⟩
end

end Go.Proofs.Ythgkhhgabpebmaa
