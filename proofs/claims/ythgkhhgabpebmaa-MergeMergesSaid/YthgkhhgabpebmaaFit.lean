/- The laws' arguments opened, with what a machine holds: each list of rows takes at most so many bytes. -/
import Derived.Test.YthgkhhgabpebmaaArgs
import Derived.Test.YthgkhhgabpebmaaSmall
import Derived.SizedLaws
namespace Go.Proofs.Ythgkhhgabpebmaa
open Go.ChangeShapes Go.WideShapes Go.ChangeAt Go.RowKit Go.Deep
set_option linter.unusedVariables false
set_option linter.unusedSimpArgs false

theorem b63 : Try.prog.bytesOf 63 = 24 := by kernel_rfl
theorem b65 : Try.prog.bytesOf 65 = 16 := by kernel_rfl

section
variable {H : Type} {enc : TypeId × Value → H} {w : World} {base : Nat} {spare : Nat → Bool} {held : Bool}

theorem slice_fit {t e len m : Nat} {D : Nat → DataW H} {Q : List MemPlace} {x : DataW H × List MemPlace} (ht : Try.prog.underlying t = some (.slice e)) (hx : x = (.slice ((List.range len).map D) ((List.range (m - len)).map fun j => D (len + j)), Q))
    (hw : ∀ n ∈ x.1.weights Try.prog t, n ≤ reachBytes) : (len + (m - len)) * Try.prog.bytesOf e ≤ reachBytes := by
  subst hx
  refine hw _ ?_
  simp [DataW.weights, ht]

theorem weightsAll_mem {P : Program} {e : TypeId} : ∀ {l : List (DataW H)} {d : DataW H}, d ∈ l → ∀ n ∈ d.weights P e, n ∈ DataW.weightsAll P e l
  | d0 :: l, d, hd, n, hn => by
    simp only [DataW.weightsAll, List.mem_append]
    rcases List.mem_cons.1 hd with rfl | hd
    · exact .inl hn
    · exact .inr (weightsAll_mem hd n hn)

theorem elems_fit {t e len i : Nat} {D : Nat → DataW H} {sp : List (DataW H)} (ht : Try.prog.underlying t = some (.slice e)) (hi : i < len) (k : Nat) (hk : k ∈ (D i).weights Try.prog e) :
    k ∈ (DataW.slice ((List.range len).map D) sp).weights Try.prog t := by
  simp only [DataW.weights, ht, List.mem_cons, List.mem_append]
  exact .inr (.inl (weightsAll_mem (List.mem_map_of_mem (List.mem_range.2 hi)) k hk))

theorem struct_fit {u j t : Nat} {fs : Array Field} {parts : List (DataW H)} {d : DataW H} (hu : Try.prog.underlying u = some (.struct fs)) (ht : (fs.toList.map (·.type))[j]? = some t) (hd : parts[j]? = some d) (k : Nat) (hk : k ∈ d.weights Try.prog t) :
    k ∈ (DataW.agg parts).weights Try.prog u := by
  simp only [DataW.weights, hu]
  exact DataW.weights_mem_each ht hd k hk

theorem fit_txns {fuel : Nat} {v : Value} {x : DataW H × List MemPlace} (h : DataW.trod enc Try.prog w base spare held fuel 56 [v] = some x) :
    ∃ a l c ts, v = .slice a l c ∧ Src w a l c 3 (tcells ts) ∧ ((∀ n ∈ x.1.weights Try.prog 56, n ≤ reachBytes) → ts.length ≤ 8796093022208) := by
  rcases open_slice Try.underlying56 h with ⟨hcs, _⟩ | ⟨a, len, cap, m, n, D, Pl, hcs, hb, hl, hm, hmm, hxx, hi⟩
  · simp at hcs; subst hcs
    exact ⟨none, 0, 0, [], rfl, .inl ⟨rfl, rfl, rfl, rfl⟩, fun _ => by simp⟩
  · simp at hcs; subst hcs
    have hle : len ≤ m := by rw [hmm]; split <;> omega
    have hone : ∀ i, i < len → ∃ p : Int × Int × Int, w.cell? (a.add (i * 3)) = some (.int .i64 p.1) ∧ w.cell? (a.add (i * 3 + 1)) = some (.int .i64 p.2.1) ∧ w.cell? (a.add (i * 3 + 2)) = some (.int .u64 p.2.2) := fun i hil => by
      obtain ⟨cs', hc, ht⟩ := hi i (by omega)
      rw [k63] at hc
      obtain ⟨_, hcl, hat⟩ := World.cells?_some hc
      obtain ⟨xs, n', _, _, _, hxl, hf⟩ := DataW.trod_struct Try.underlying63 ht
      match cs', hcl with
      | [c0, c1, c2], _ =>
        have f0 : DataW.trod enc Try.prog w base spare held n' 3 (List.take (Try.prog.cellsOf 3) [c0, c1, c2]) = xs[0]? := hf 0 _ rfl
        have f1 : DataW.trod enc Try.prog w base spare held n' 61 (List.take (Try.prog.cellsOf 61) [c1, c2]) = xs[1]? := hf 1 _ rfl
        have f2 : DataW.trod enc Try.prog w base spare held n' 49 (List.take (Try.prog.cellsOf 49) [c2]) = xs[2]? := hf 2 _ rfl
        rw [k3] at f0
        rw [k61] at f1
        rw [k49] at f2
        simp only [List.take_succ_cons, List.take_zero] at f0 f1 f2
        have hxl : xs.length = 3 := hxl
        rw [List.getElem?_eq_getElem (by omega)] at f0 f1 f2
        obtain ⟨z0, h0, _⟩ := DataW.trod_int Try.underlying3 f0
        obtain ⟨z1, h1, _⟩ := DataW.trod_int Try.underlying61 f1
        obtain ⟨z2, h2, _⟩ := DataW.trod_int Try.underlying49 f2
        simp only [List.cons.injEq, and_true] at h0 h1 h2
        subst h0 h1 h2
        have a0 := hat 0 (by omega)
        have a1 := hat 1 (by omega)
        have a2 := hat 2 (by omega)
        rw [Go.Deep.add_add] at a0 a1 a2
        exact ⟨(z0, z1, z2), by simpa using a0, by simpa using a1, by simpa using a2⟩
    obtain ⟨ts, htl, hts⟩ := choose_list hone
    refine ⟨_, _, _, ts, rfl, .inr ⟨a, rfl, by rw [tcells_length, htl], fun j u hu => ?_, tcells_one _⟩, fun hw => ?_⟩
    rotate_left
    · have h1 := slice_fit Try.underlying56 hxx hw
      rw [b63] at h1
      rw [htl]
      unfold reachBytes at h1
      omega
    have hj : j < len * 3 := by
      have := (List.getElem?_eq_some_iff.1 hu).1
      rw [tcells_length, htl] at this; exact this
    obtain ⟨p, hp⟩ : ∃ p, ts[j / 3]? = some p := ⟨_, List.getElem?_eq_getElem (by omega)⟩
    obtain ⟨q0, q1, q2⟩ := hts (j / 3) p hp
    obtain ⟨r0, r1, r2⟩ := tcells_at ts (j / 3) p hp
    rcases (by omega : j / 3 * 3 = j ∨ j / 3 * 3 + 1 = j ∨ j / 3 * 3 + 2 = j) with e | e | e
    · rw [e] at q0 r0; rw [hu] at r0; rw [q0]; exact r0.symm
    · rw [e] at q1 r1; rw [hu] at r1; rw [q1]; exact r1.symm
    · rw [e] at q2 r2; rw [hu] at r2; rw [q2]; exact r2.symm

theorem fit_dirty {fuel : Nat} {v : Value} {x : DataW H × List MemPlace} (h : DataW.trod enc Try.prog w base spare held fuel 57 [v] = some x) :
    ∃ a l c ds, v = .slice a l c ∧ Src w a l c 2 (dcells ds) ∧ ((∀ n ∈ x.1.weights Try.prog 57, n ≤ reachBytes) → ds.length ≤ 8796093022208) := by
  rcases open_slice Try.underlying57 h with ⟨hcs, _⟩ | ⟨a, len, cap, m, n, D, Pl, hcs, hb, hl, hm, hmm, hxx, hi⟩
  · simp at hcs; subst hcs
    exact ⟨none, 0, 0, [], rfl, .inl ⟨rfl, rfl, rfl, rfl⟩, fun _ => by simp⟩
  · simp at hcs; subst hcs
    have hle : len ≤ m := by rw [hmm]; split <;> omega
    have hone : ∀ i, i < len → ∃ p : Int × Int, w.cell? (a.add (i * 2)) = some (.int .i64 p.1) ∧ w.cell? (a.add (i * 2 + 1)) = some (.int .u64 p.2) := fun i hil => by
      obtain ⟨cs', hc, ht⟩ := hi i (by omega)
      rw [k65] at hc
      obtain ⟨_, hcl, hat⟩ := World.cells?_some hc
      obtain ⟨xs, n', _, _, _, hxl, hf⟩ := DataW.trod_struct Try.underlying65 ht
      match cs', hcl with
      | [c0, c1], _ =>
        have f0 : DataW.trod enc Try.prog w base spare held n' 3 (List.take (Try.prog.cellsOf 3) [c0, c1]) = xs[0]? := hf 0 _ rfl
        have f1 : DataW.trod enc Try.prog w base spare held n' 49 (List.take (Try.prog.cellsOf 49) [c1]) = xs[1]? := hf 1 _ rfl
        rw [k3] at f0
        rw [k49] at f1
        simp only [List.take_succ_cons, List.take_zero] at f0 f1
        have hxl : xs.length = 2 := hxl
        rw [List.getElem?_eq_getElem (by omega)] at f0 f1
        obtain ⟨z0, h0, _⟩ := DataW.trod_int Try.underlying3 f0
        obtain ⟨z1, h1, _⟩ := DataW.trod_int Try.underlying49 f1
        simp only [List.cons.injEq, and_true] at h0 h1
        subst h0 h1
        have a0 := hat 0 (by omega)
        have a1 := hat 1 (by omega)
        rw [Go.Deep.add_add] at a0 a1
        exact ⟨(z0, z1), by simpa using a0, by simpa using a1⟩
    obtain ⟨ts, htl, hts⟩ := choose_list hone
    refine ⟨_, _, _, ts, rfl, .inr ⟨a, rfl, by rw [dcells_length, htl], fun j u hu => ?_, dcells_one _⟩, fun hw => ?_⟩
    rotate_left
    · have h1 := slice_fit Try.underlying57 hxx hw
      rw [b65] at h1
      rw [htl]
      unfold reachBytes at h1
      omega
    have hj : j < len * 2 := by
      have := (List.getElem?_eq_some_iff.1 hu).1
      rw [dcells_length, htl] at this; exact this
    obtain ⟨p, hp⟩ : ∃ p, ts[j / 2]? = some p := ⟨_, List.getElem?_eq_getElem (by omega)⟩
    obtain ⟨q0, q1⟩ := hts (j / 2) p hp
    obtain ⟨r0, r1⟩ := dcells_at ts (j / 2) p hp
    rcases (by omega : j / 2 * 2 = j ∨ j / 2 * 2 + 1 = j) with e | e
    · rw [e] at q0 r0; rw [hu] at r0; rw [q0]; exact r0.symm
    · rw [e] at q1 r1; rw [hu] at r1; rw [q1]; exact r1.symm

theorem fit_rec {fuel : Nat} {cs : List Value} {x : DataW H × List MemPlace} (h : DataW.trod enc Try.prog w base spare held fuel 59 cs = some x) : ∃ (q : Rq) (c : RC), cs = q.cells ∧ Reads w q c ∧ ((∀ n ∈ x.1.weights Try.prog 59, n ≤ reachBytes) → c.fit ∧ 0 ≤ c.lsn) := by
  obtain ⟨xs, n', _, hxx, hlen, hxl, hf⟩ := DataW.trod_struct Try.underlying59 h
  rw [k59] at hlen
  match cs, hlen with
  | [c0, c1, c2, c3, c4, c5, c6, c7, c8, c9, c10, c11], _ =>
    have f0 : DataW.trod enc Try.prog w base spare held n' 52 (List.take (Try.prog.cellsOf 52) [c0, c1, c2, c3, c4, c5, c6, c7, c8, c9, c10, c11]) = xs[0]? := hf 0 _ rfl
    have f1 : DataW.trod enc Try.prog w base spare held n' 49 (List.take (Try.prog.cellsOf 49) [c1, c2, c3, c4, c5, c6, c7, c8, c9, c10, c11]) = xs[1]? := hf 1 _ rfl
    have f2 : DataW.trod enc Try.prog w base spare held n' 3 (List.take (Try.prog.cellsOf 3) [c2, c3, c4, c5, c6, c7, c8, c9, c10, c11]) = xs[2]? := hf 2 _ rfl
    have f3 : DataW.trod enc Try.prog w base spare held n' 49 (List.take (Try.prog.cellsOf 49) [c3, c4, c5, c6, c7, c8, c9, c10, c11]) = xs[3]? := hf 3 _ rfl
    have f4 : DataW.trod enc Try.prog w base spare held n' 49 (List.take (Try.prog.cellsOf 49) [c4, c5, c6, c7, c8, c9, c10, c11]) = xs[4]? := hf 4 _ rfl
    have f5 : DataW.trod enc Try.prog w base spare held n' 3 (List.take (Try.prog.cellsOf 3) [c5, c6, c7, c8, c9, c10, c11]) = xs[5]? := hf 5 _ rfl
    have f6 : DataW.trod enc Try.prog w base spare held n' 55 (List.take (Try.prog.cellsOf 55) [c6, c7, c8, c9, c10, c11]) = xs[6]? := hf 6 _ rfl
    have f7 : DataW.trod enc Try.prog w base spare held n' 56 (List.take (Try.prog.cellsOf 56) [c10, c11]) = xs[7]? := hf 7 _ rfl
    have f8 : DataW.trod enc Try.prog w base spare held n' 57 (List.take (Try.prog.cellsOf 57) [c11]) = xs[8]? := hf 8 _ rfl
    rw [k52] at f0
    rw [k49] at f1 f3 f4
    rw [k3] at f2 f5
    rw [k55] at f6
    rw [k56] at f7
    rw [k57] at f8
    simp only [List.take_succ_cons, List.take_zero] at f0 f1 f2 f3 f4 f5 f6 f7 f8
    have hxl : xs.length = 9 := hxl
    rw [List.getElem?_eq_getElem (by omega)] at f0 f1 f2 f3 f4 f5 f6 f7 f8
    obtain ⟨z0, h0, _⟩ := DataW.trod_int Try.underlying52 f0
    obtain ⟨z1, h1, _, wf1⟩ := DataW.trod_int Try.underlying49 f1
    obtain ⟨z2, h2, _⟩ := DataW.trod_int Try.underlying3 f2
    obtain ⟨z3, h3, _⟩ := DataW.trod_int Try.underlying49 f3
    obtain ⟨z4, h4, _⟩ := DataW.trod_int Try.underlying49 f4
    obtain ⟨z5, h5, _⟩ := DataW.trod_int Try.underlying3 f5
    simp only [List.cons.injEq, and_true] at h0 h1 h2 h3 h4 h5
    subst h0 h1 h2 h3 h4 h5
    obtain ⟨ys, n2, _, _, _, hyl, hg⟩ := DataW.trod_struct Try.underlying55 f6
    have g0 : DataW.trod enc Try.prog w base spare held n2 53 (List.take (Try.prog.cellsOf 53) [c6, c7, c8, c9]) = ys[0]? := hg 0 _ rfl
    have g1 : DataW.trod enc Try.prog w base spare held n2 9 (List.take (Try.prog.cellsOf 9) [c7, c8, c9]) = ys[1]? := hg 1 _ rfl
    have g2 : DataW.trod enc Try.prog w base spare held n2 9 (List.take (Try.prog.cellsOf 9) [c8, c9]) = ys[2]? := hg 2 _ rfl
    have g3 : DataW.trod enc Try.prog w base spare held n2 9 (List.take (Try.prog.cellsOf 9) [c9]) = ys[3]? := hg 3 _ rfl
    rw [k53] at g0
    rw [k9] at g1 g2 g3
    simp only [List.take_succ_cons, List.take_zero] at g0 g1 g2 g3
    have hyl : ys.length = 4 := hyl
    rw [List.getElem?_eq_getElem (by omega)] at g0 g1 g2 g3
    obtain ⟨a0, e0, _⟩ := DataW.trod_int Try.underlying53 g0
    obtain ⟨a1, e1, _⟩ := DataW.trod_string Try.underlying9 g1
    obtain ⟨a2, e2, _⟩ := DataW.trod_string Try.underlying9 g2
    obtain ⟨a3, e3, _⟩ := DataW.trod_string Try.underlying9 g3
    simp only [List.cons.injEq, and_true] at e0 e1 e2 e3
    subst e0 e1 e2 e3
    obtain ⟨ta, tl, tc, ts, e4, ht, hft⟩ := fit_txns f7
    obtain ⟨da, dl, dc, ds, e5, hd, hfd⟩ := fit_dirty f8
    subst e4 e5
    refine ⟨⟨z0, z1, z2, z3, z4, z5, a0, a1, a2, a3, ta, tl, tc, da, dl, dc⟩, ⟨z0, z1, z2, z3, z4, z5, a0, a1, a2, a3, ts, ds⟩, rfl, ⟨⟨rfl, rfl, rfl, rfl, rfl, rfl, rfl, rfl, rfl, rfl⟩, ht, hd⟩, fun hw => ⟨⟨hft (fun k hk => hw k ?_), hfd (fun k hk => hw k ?_)⟩, ?_⟩⟩
    · rw [hxx]
      exact struct_fit Try.underlying59 (j := 7) (t := 56) rfl (by rw [List.getElem?_map, List.getElem?_eq_getElem (by omega)]; rfl) k hk
    · rw [hxx]
      exact struct_fit Try.underlying59 (j := 8) (t := 57) rfl (by rw [List.getElem?_map, List.getElem?_eq_getElem (by omega)]; rfl) k hk
    · simp [Lit.wf, IntKind.min, IntKind.max, IntKind.signed, IntKind.bits] at wf1
      exact wf1.1

theorem fit_recs {fuel : Nat} {v : Value} {x : DataW H × List MemPlace} (h : DataW.trod enc Try.prog w base spare held fuel 25 [v] = some x) :
    ∃ a l c cs, v = .slice a l c ∧ Recs w a l cs ∧ l ≤ c ∧ c ≤ 9223372036854775807 ∧ (a = none → c = 0) ∧ ((∀ n ∈ x.1.weights Try.prog 25, n ≤ reachBytes) → ∀ d ∈ cs, RC.fit d ∧ 0 ≤ d.lsn) := by
  rcases open_slice Try.underlying25 h with ⟨hcs, _⟩ | ⟨a, len, cap, m, n, D, Pl, hcs, hb, hl, hm, hmm, hxx, hi⟩
  · simp at hcs; subst hcs
    exact ⟨none, 0, 0, [], rfl, Recs.nil _ _, Nat.le_refl _, by omega, fun _ => rfl, fun _ d hd => by simp at hd⟩
  · simp at hcs; subst hcs
    have hle : len ≤ m := by rw [hmm]; split <;> omega
    have hone : ∀ i, i < len → ∃ p : Rq × RC, w.cells? base (a.add (i * 12)) 12 = some p.1.cells ∧ Reads w p.1 p.2 ∧ ((∀ n ∈ (D i).weights Try.prog 59, n ≤ reachBytes) → p.2.fit ∧ 0 ≤ p.2.lsn) := fun i hil => by
      obtain ⟨cs', hc, ht⟩ := hi i (by omega)
      rw [k59] at hc
      obtain ⟨q, c, rfl, hr, hft⟩ := fit_rec ht
      exact ⟨(q, c), hc, hr, hft⟩
    obtain ⟨ps, hpl, hps⟩ := choose_list hone
    unfold maxLen at hm
    refine ⟨_, _, _, ps.map Prod.snd, rfl, ⟨by simp [hpl], fun j c hc => ?_⟩, hl, hm, (fun h => by simp at h), fun hw d hd => ?_⟩
    rotate_left
    · obtain ⟨p, hp, rfl⟩ := List.mem_map.1 hd
      obtain ⟨i, hi', rfl⟩ := List.mem_iff_getElem.1 hp
      refine (hps i _ (List.getElem?_eq_getElem hi')).2.2 (fun k hk => hw k ?_)
      rw [hxx]
      exact elems_fit Try.underlying25 (by omega) k hk
    rw [List.getElem?_map] at hc
    obtain ⟨p, hp, rfl⟩ := Option.map_eq_some_iff.1 hc
    obtain ⟨h1, h2, _⟩ := hps j p hp
    obtain ⟨_, _, hat⟩ := World.cells?_some h1
    obtain ⟨b, off, spot⟩ := a
    have hspot : spot = none := by
      obtain ⟨p0, hp0⟩ : ∃ p0, ps[0]? = some p0 := ⟨_, List.getElem?_eq_getElem (by have := (List.getElem?_eq_some_iff.1 hp).1; omega)⟩
      obtain ⟨_, _, hat0⟩ := World.cells?_some (hps 0 p0 hp0).1
      have := hat0 0 (by simp [Rq.cells])
      simpa [Addr.add] using World.cell?_spot this
    subst hspot
    refine ⟨b, off, p.1, rfl, .of_at fun i u hu => ?_, h2⟩
    have hi' : i < p.1.cells.length := (List.getElem?_eq_some_iff.1 hu).1
    have h3 := hat i (by simpa [Rq.cells] using hi')
    rw [Go.Deep.add_add, Go.WideShapes.add_plain, ← Nat.add_assoc] at h3
    rw [h3]
    obtain ⟨_, rfl⟩ := List.getElem?_eq_some_iff.1 hu
    first | rfl | (rw [List.getElem?_eq_getElem hi']) | (simp [List.getElem?_eq_getElem hi'])

theorem fit_logs {fuel : Nat} {a : Option Addr} {len cap : Nat} {x : DataW H × List MemPlace} (h : DataW.trod enc Try.prog w base spare held fuel 22 [.slice a len cap] = some x) :
    ∃ ls, Logs w a len ls ∧ len ≤ cap ∧ cap ≤ 9223372036854775807 ∧ (a = none → cap = 0) ∧ ((∀ n ∈ x.1.weights Try.prog 22, n ≤ reachBytes) → ∀ l ∈ ls, ∀ d ∈ l.cs, RC.fit d ∧ 0 ≤ d.lsn) := by
  rcases open_slice Try.underlying22 h with ⟨hcs, _⟩ | ⟨a', len', cap', m, n, D, Pl, hcs, hb, hl, hm, hmm, hxx, hi⟩
  · simp at hcs
    obtain ⟨rfl, rfl, rfl⟩ := hcs
    exact ⟨[], ⟨rfl, fun j l h => by simp at h, fun l h => by simp at h, fun l h => by simp at h⟩, Nat.le_refl _, by omega, fun _ => rfl, fun _ l hl => by simp at hl⟩
  · simp at hcs
    obtain ⟨rfl, rfl, rfl⟩ := hcs
    have hle : len ≤ m := by rw [hmm]; split <;> omega
    unfold maxLen at hm
    have hone : ∀ i, i < len → ∃ l : Lg, w.cell? (a'.add i) = some (.slice l.a l.n l.c) ∧ Recs w l.a l.n l.cs ∧ l.n ≤ l.c ∧ l.c ≤ 9223372036854775807 ∧ (l.a = none → l.c = 0) ∧ ((∀ n ∈ (D i).weights Try.prog 25, n ≤ reachBytes) → ∀ d ∈ l.cs, RC.fit d ∧ 0 ≤ d.lsn) := fun i hil => by
      obtain ⟨cs', hc, ht⟩ := hi i (by omega)
      rw [k25] at hc
      obtain ⟨_, hcl, hat⟩ := World.cells?_some hc
      match cs', hcl with
      | [c0], _ =>
        obtain ⟨b, l, c, cs, rfl, h1, h2, h3, h4, h5⟩ := fit_recs ht
        have a0 := hat 0 (by omega)
        rw [Go.Deep.add_add] at a0
        exact ⟨⟨b, l, c, cs⟩, by simpa using a0, h1, h2, h3, h4, h5⟩
    obtain ⟨ls, hll, hls⟩ := choose_list hone
    refine ⟨ls, ⟨hll, fun j l hl => ?_, fun l hl => ?_, fun l hl => ?_⟩, hl, hm, (fun h => by simp at h), fun hw l hl => ?_⟩
    · obtain ⟨h1, _⟩ := hls j l hl
      obtain ⟨b, off, spot⟩ := a'
      have hspot : spot = none := by
        obtain ⟨p0, hp0⟩ : ∃ p0, ls[0]? = some p0 := ⟨_, List.getElem?_eq_getElem (by have := (List.getElem?_eq_some_iff.1 hl).1; omega)⟩
        simpa [Addr.add] using World.cell?_spot (hls 0 p0 hp0).1
      subst hspot
      rw [Go.WideShapes.add_plain] at h1
      exact ⟨b, off, rfl, h1⟩
    · obtain ⟨j, hj, rfl⟩ := List.mem_iff_getElem.1 hl
      obtain ⟨_, h2, h3, h4, _⟩ := hls j _ (List.getElem?_eq_getElem hj)
      exact ⟨h2, h3, h4⟩
    · obtain ⟨j, hj, rfl⟩ := List.mem_iff_getElem.1 hl
      exact (hls j _ (List.getElem?_eq_getElem hj)).2.2.2.2.1
    · obtain ⟨i, hi', rfl⟩ := List.mem_iff_getElem.1 hl
      refine (hls i _ (List.getElem?_eq_getElem hi')).2.2.2.2.2 (fun k hk => hw k ?_)
      rw [hxx]
      exact elems_fit Try.underlying22 (by omega) k hk

end

end Go.Proofs.Ythgkhhgabpebmaa
