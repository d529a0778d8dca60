/- 'Chain': a record, the one that it leads to, and so on. -/
import Derived.Test.YthgkhhgabpebmaaTurnP
namespace Go.Proofs.Ythgkhhgabpebmaa
open Go.RowKit
set_option linter.unusedVariables false
set_option linter.unusedSimpArgs false

/-- From an LSN back: each record is there, falls, leads to the next; the last one leads to nothing. -/
def Chained (cs : List RC) : Int → List RC → Prop
  | at_, [] => at_ = 0
  | at_, c :: r => at_ ≠ 0 ∧ c ∈ cs ∧ c.lsn = at_ ∧ c.prev < at_ ∧ Chained cs c.prev r

/-- So far along the chain. -/
def Along (cs : List RC) (at0 at_ : Int) (D : List RC) : Prop := ∀ E, Chained cs at_ E → Chained cs at0 (D ++ E)

theorem Along.start (cs : List RC) (at_ : Int) : Along cs at_ at_ [] := fun E h => h
theorem Along.next {cs : List RC} {at0 at_ : Int} {D : List RC} {c : RC} (h : Along cs at0 at_ D) (h0 : at_ ≠ 0) (hm : c ∈ cs) (hl : c.lsn = at_) (hp : c.prev < at_) : Along cs at0 c.prev (D ++ [c]) := fun E hE => by
  rw [List.append_assoc]
  exact h _ ⟨h0, hm, hl, hp, hE⟩
theorem Along.done {cs : List RC} {at0 : Int} {D : List RC} (h : Along cs at0 0 D) : Chained cs at0 D := by
  have := h [] rfl
  rwa [List.append_nil] at this

/-- What 'Chain' leaves. -/
def ChainPost (cs : List RC) (at_ : Int) (w : World) (e : Ending) (w' : World) : Prop :=
  ∃ r oa on oc D xs, e = .returned (.tuple #[.slice oa on oc, .int .i64 r]) ∧ Told w' w.heap.size oa on oc D xs ∧ Below w.heap.size w w' ∧ (∀ d ∈ D, d ∈ cs) ∧ D.length ≤ cs.length ∧
    (r = 0 → Rising cs ∧ Chained cs at_ D) ∧ (r ≠ 0 → D = [] ∧ (at_ ≠ 0 ∨ ¬ Rising cs))

set_option maxHeartbeats 4000000 in
set_option maxRecDepth 1000000 in
theorem chain_any (a : Option Addr) (n cap : Nat) (cs : List RC) (at0 : Int) (w : World) (h : Recs w a n cs) (hf : ∀ c ∈ cs, c.few) (hn : n ≤ 100000) :
    Calls Try.prog 27 #[.slice a n cap, .int .u64 at0] w (ChainPost cs at0 w) := by
  obtain ⟨i0, hi0, hz0, hz1, hz2⟩ := info_parts info59
  have H := Lib.hid h
  have F := Lib.hid hf
  clear h hf
  go_enter Try.func27, Try.ntmps27
  go_wp2_with fail
  refine (rises_any a n cap cs w H.out (by omega)).mono ?_
  rintro e w1 ⟨b, rfl, hb, d, rfl⟩
  have HB := Lib.hid hb
  have B1 : Hid (Below w.heap.size w (w.drewN d)) := below_drewN (Below.refl _ _) d
  clear hb
  generalize w.drewN d = w1 at B1 ⊢
  rcases b with _ | _
  · go_wp2_with fail
    go_ret2
    exact ⟨1, none, 0, 0, [], [], rfl, Told.nil _ _, B1.out, (fun d hd => by simp at hd), Nat.zero_le _, (fun h => by simp at h), fun _ => ⟨rfl, .inr (fun hr => by have := HB.out.2 hr; cases this)⟩⟩
  have RI : Hid (Rising cs) := HB.out.1 rfl
  clear HB
  go_wp2_with fail
  go_loopw [1, 6, 7] (fun av o iv wr => ∃ (k : Nat) (z at_ : Int) (oa : Option Addr) (on oc : Nat) (D : List RC) (xs : List Rq), z = (k : Int) - 1 ∧ on + k ≤ n ∧ av = .int .u64 at_ ∧ iv = .int .i64 z ∧ o = .slice oa on oc ∧ Told wr w.heap.size oa on oc D xs ∧ Below w.heap.size w wr ∧ Hid ((∀ d ∈ D, d ∈ cs) ∧ Along cs at0 at_ D ∧ (at_ ≠ 0 → at0 ≠ 0))) (fun _ _ iv _ => (intOf iv + 1).toNat)
  case atStart => exact ⟨n, (n : Int) - 1, at0, none, 0, 0, [], [], rfl, by omega, rfl, by go_num, rfl, Told.nil _ _, B1.out, Lib.hid ⟨fun d hd => by simp at hd, Along.start _ _, fun h => h⟩⟩
  case round =>
    obtain ⟨k, z, at_, oa, on, oc, D, xs, hz, hk, rfl, rfl, rfl, hT, hB, HD⟩ := hrel
    have T := Lib.hid hT
    have B := Lib.hid hB
    clear hT hB B1
    by_cases hat : at_ = 0
    · subst hat
      go_wp2_with fail
      go_ret2
      refine ⟨0, oa, on, oc, D, xs, rfl, T.out, B.out, HD.out.1, ?_, fun _ => ⟨RI.out, HD.out.2.1.done⟩, fun h => absurd rfl h⟩
      have h1 := T.out.recs.len
      have h2 := H.out.len
      omega
    have NZ := Lib.hid (HD.out.2.2 hat)
    have HZ := Lib.hid hz
    clear hz
    go_wp2_with fail
    go_loopw [7] (fun iv wr' => ∃ (k' : Nat) (z' : Int), z' = (k' : Int) - 1 ∧ k' ≤ k ∧ iv = .int .i64 z' ∧ wr' = wr) (fun iv _ => (intOf iv + 1).toNat)
    case atStart => exact ⟨k, z, HZ.out, Nat.le_refl _, rfl, rfl⟩
    case round =>
      obtain ⟨k', z', hz', hk', rfl, rfl⟩ := hrel
      rcases Nat.eq_zero_or_pos k' with h0 | hpos
      · subst h0
        obtain rfl : z' = -1 := by omega
        clear hz'
        go_wp2_with fail
        go_ret2
        exact ⟨8, none, 0, 0, [], [], rfl, Told.nil _ _, B.out, (fun d hd => by simp at hd), Nat.zero_le _, (fun h => by simp at h), fun _ => ⟨rfl, .inl NZ.out⟩⟩
      obtain ⟨p, hp⟩ : ∃ p, k' = p + 1 := ⟨k' - 1, by omega⟩
      obtain rfl : z' = (p : Int) := by omega
      subst hp
      clear hz'
      obtain ⟨c, hc⟩ : ∃ c, cs[p]? = some c := H.out.at (show p < n by omega)
      obtain ⟨g, off, x, rfl, hx, hr⟩ := H.out.get p c hc
      have XL := Lib.hid hr.plain.lsn
      have XP := Lib.hid hr.plain.prev
      have RD := Lib.hid (hr.below B.out)
      have C := Lib.hid hc
      have hx2 := hx.below B.out
      obtain ⟨x0, x1, x2, x3, x4, x5, x6, x7, x8, x9, x10, x11⟩ := hx2
      have q1 : (p : Int) < (n : Int) := by omega
      have q2 : (0 : Int) ≤ (p : Int) := by omega
      have q3 : ¬ (p : Int) < 0 := by omega
      clear hx hr hc
      by_cases hgt : at_ < x.lsn
      · go_wp2_with fail
        go_roundw
        case rel => exact ⟨p, (p : Int) - 1, rfl, by omega, by go_num, trivial⟩
        case measure => simp [intOf] <;> omega
      by_cases hne : x.lsn = at_
      case neg =>
        go_wp2_with fail
        go_ret2
        exact ⟨8, none, 0, 0, [], [], rfl, Told.nil _ _, B.out, (fun d hd => by simp at hd), Nat.zero_le _, (fun h => by simp at h), fun _ => ⟨rfl, .inl NZ.out⟩⟩
      by_cases hge : at_ ≤ x.prev
      · go_wp2_with fail
        go_ret2
        exact ⟨1, none, 0, 0, [], [], rfl, Told.nil _ _, B.out, (fun d hd => by simp at hd), Nat.zero_le _, (fun h => by simp at h), fun _ => ⟨rfl, .inl NZ.out⟩⟩
      have AL : Hid (Along cs at0 x.prev (D ++ [c])) := by
        have h1 := HD.out.2.1.next (c := c) hat (List.mem_of_getElem? C.out) (by rw [← XL.out]; exact hne) (by rw [← XP.out]; omega)
        rw [← XP.out] at h1
        exact h1
      have DM : Hid (∀ d ∈ D ++ [c], d ∈ cs) := fun d hd => by
        rcases List.mem_append.1 hd with hd | hd
        · exact HD.out.1 d hd
        · rw [List.mem_singleton] at hd
          subst hd
          exact List.mem_of_getElem? C.out
      have NE := Lib.hid hne
      have Q5 : ¬ (x.lsn < at_) := by omega
      have q6 : at_ = x.lsn := hne.symm
      subst q6
      clear hne hgt Q5
      go_wp2_with fail
      refine (copied_any x c wr RD.out (F.out c (List.mem_of_getElem? C.out))).mono ?_
      rintro e w4 ⟨y, rfl, hk4, hy⟩
      have T4 := Lib.hid (T.out.none hk4)
      have B4 := Lib.hid (keep0_below B.out hk4 B.out.size)
      have HY := Lib.hid (hy.base B.out.size)
      clear hk4 hy T x0 x1 x2 x3 x4 x5 x6 x7 x8 x9 x10 x11 RD
      go_wp2_with (at_builtin; refine wpList_append_src rfl _ _ 25 rfl w.heap.size 59 i0 (.agg #[.int .i64 0, .int .u64 0, .int .i64 0, .int .u64 0, .int .u64 0, .int .i64 0, .int .i64 0, .string ByteArray.empty, .string ByteArray.empty, .string ByteArray.empty, .slice none 0 0, .slice none 0 0]) 12 152 Try.underlying25 hi0 hz0 hz1 hz2 rfl (by decide) (.slice oa on oc) on (allcells xs) rfl ?_ (some ⟨w4.heap.size, 0, none⟩) 1 1 y.cells rfl ?_ (by unfold maxLen; omega) (by omega) ?_ ?_)
      · exact T4.out.row.alloc _
      · exact src_new w4 59 12 y.cells rfl y.one
      · have := B4.out.size; simp; omega
      intro v' w5 hown hgrow hne
      obtain ⟨oa5, oc5, rfl⟩ := owns_shape hown
      rw [← allcells_snoc] at hown
      have K5 : Keep (fun j => (Value.slice oa on oc).ownBlock = some j) w4 w5 := ((Keep.refl _ w4).alloc _).grown hgrow (fun j hj => .inl hj)
      have B5 := Lib.hid (B4.out.trans (K5.below B4.out.size (fun b hb e => by have := (T4.out.row.lt b e).1; omega)))
      have T5 := Lib.hid (T4.out.snoc HY.out K5 hown)
      have x3 : w5.cell? ⟨g, off + p * 12 + 3, none⟩ = some (.int .u64 x.prev) := by
        obtain ⟨g', off', x', e', hx', hr'⟩ := (H.out.below B5.out).get p c C.out
        simp only [Option.some.injEq, Addr.mk.injEq, and_true] at e'
        obtain ⟨rfl, rfl⟩ := e'
        have := hx'.c3
        rwa [hr'.plain.prev, ← XP.out] at this
      clear hown hgrow hne K5 T4 B4 HY B
      go_wp2_with fail
      go_roundw
      case rel => exact ⟨p, (p : Int) - 1, x.prev, oa5, on + 1, oc5, D ++ [c], xs ++ [y], rfl, by omega, rfl, by go_num, rfl, T5.out, B5.out, Lib.hid ⟨DM.out, AL.out, fun _ => NZ.out⟩⟩
      case measure =>
        have hz2 : z = (k : Int) - 1 := HZ.out
        simp [intOf] <;> omega

end Go.Proofs.Ythgkhhgabpebmaa
