/- 'small' of the laws over merge: where it says true there are few records. -/
import Derived.Test.YthgkhhgabpebmaaLives
namespace Go.Proofs.Ythgkhhgabpebmaa
open Go.RowKit
set_option linter.unusedVariables false
set_option linter.unusedSimpArgs false

/-- What a machine holds. -/
def RC.fit (c : RC) : Prop := c.ts.length ≤ 8796093022208 ∧ c.ds.length ≤ 8796093022208

def RC.wt (c : RC) : Nat := 1 + c.ts.length + c.ds.length
def wts (cs : List RC) : Nat := (cs.map RC.wt).sum

theorem wts_snoc (cs : List RC) (c : RC) : wts (cs ++ [c]) = wts cs + c.wt := by simp [wts]
theorem wts_append (cs ds : List RC) : wts (cs ++ ds) = wts cs + wts ds := by simp [wts]
theorem wts_len (cs : List RC) : cs.length ≤ wts cs := by
  induction cs with
  | nil => simp [wts]
  | cons c r ih => simp only [wts, List.map_cons, List.sum_cons, List.length_cons, RC.wt] at ih ⊢; omega
theorem wts_mem {cs : List RC} {c : RC} (h : c ∈ cs) : c.wt ≤ wts cs := by
  induction cs with
  | nil => simp at h
  | cons d r ih =>
    simp only [wts, List.map_cons, List.sum_cons] at ih ⊢
    rcases List.mem_cons.1 h with rfl | h
    · omega
    · have := ih h; omega

def wtl (ls : List Lg) : Nat := wts (ls.map Lg.cs).flatten

theorem wtl_snoc (ls : List Lg) (l : Lg) : wtl (ls ++ [l]) = wtl ls + wts l.cs := by simp [wtl, wts_append]

/-- What 'small' says. -/
structure Small (ls : List Lg) : Prop where
  logs : ls.length ≤ 40
  recs : wtl ls ≤ 300

theorem Small.few {ls : List Lg} (h : Small ls) : Few ls :=
  ⟨by have := h.logs; omega, by have := h.recs; have h2 := wts_len (ls.map Lg.cs).flatten; unfold wtl at this; omega, fun l hl c hc => by
    have h1 := h.recs
    have h2 : c.wt ≤ wtl ls := wts_mem (List.mem_flatten.2 ⟨l.cs, List.mem_map_of_mem hl, hc⟩)
    unfold RC.wt at h2
    exact ⟨by omega, by omega⟩⟩

/-- How far it has counted. -/
def Cnt (on tot : Nat) : Prop := (on = tot ∨ 300 < on) ∧ on ≤ 100000000000000

theorem Cnt.next {on tot : Nat} {c : RC} (h : Cnt on tot) (h3 : on ≤ 300) (hf : c.fit) : Cnt (on + 1 + c.ts.length + c.ds.length) (tot + c.wt) := by
  obtain ⟨h1, h2⟩ := h
  obtain ⟨f1, f2⟩ := hf
  refine ⟨.inl ?_, by omega⟩
  unfold RC.wt
  omega

theorem Cnt.over {on tot tot' : Nat} (h : Cnt on tot) (h3 : 300 < on) : Cnt on tot' := ⟨.inr h3, h.2⟩

/-- What 'small' leaves. -/
def SmallPost (ls : List Lg) (w : World) (e : Ending) (w' : World) : Prop := ∃ b : Bool, e = .returned (.bool b) ∧ (b = true → Small ls) ∧ ∃ d, w' = w.drewN d

theorem take_snoc {α : Type} {l : List α} {k : Nat} {x : α} (h : l[k]? = some x) : l.take (k + 1) = l.take k ++ [x] := by
  rw [List.take_add_one, h]; rfl

set_option maxHeartbeats 1000000 in
set_option maxRecDepth 100000 in
theorem small_any (a : Option Addr) (n cap : Nat) (ls : List Lg) (w : World) (h : Logs w a n ls) (hf : ∀ l ∈ ls, ∀ c ∈ l.cs, c.fit) (hn : n ≤ 9223372036854775807) :
    Calls Try.prog 8 #[.slice a n cap] w (SmallPost ls w) := by
  have H := Lib.hid h
  have HF := Lib.hid hf
  clear h hf
  go_enter Try.func8, Try.ntmps8
  rcases (by omega : 40 < n ∨ n ≤ 40) with h40 | h40
  · have q0 : (40 : Int) < (n : Int) := by omega
    go_wp2_with fail
    go_ret
    exact ⟨false, rfl, (fun h => by cases h), 0, rfl⟩
  have q0 : (n : Int) ≤ (40 : Int) := by omega
  go_wp2_with fail
  go_loopw [3, 4] (fun o i wr => ∃ (on k d : Nat), k ≤ n ∧ o = .int .i64 on ∧ i = .int .i64 k ∧ wr = w.drewN d ∧ Hid (Cnt on (wtl (ls.take k)))) (fun _ i _ => n - (intOf i).toNat)
  case atStart => exact ⟨0, 0, 0, Nat.zero_le _, rfl, rfl, rfl, Lib.hid ⟨.inl rfl, by omega⟩⟩
  case round =>
    obtain ⟨on, k, d, hk, rfl, rfl, rfl, HC⟩ := hrel
    rcases (by omega : k < n ∨ n ≤ k) with hlt | hge
    · obtain ⟨l, hl⟩ := H.out.at hlt
      obtain ⟨g, off, rfl, hc⟩ := H.out.get k l hl
      have HL := Lib.hid hl
      have hlm := (H.out.recs l (List.mem_of_getElem? hl)).2
      have hln : l.n ≤ 9223372036854775807 := by omega
      have q1 : (k : Int) < (n : Int) := by omega
      clear hl hlm
      go_wp2_with fail
      go_loopw [3, 5] (fun o i wr => ∃ (on j d : Nat), j ≤ l.n ∧ o = .int .i64 on ∧ i = .int .i64 j ∧ wr = w.drewN d ∧ Hid (Cnt on (wtl (ls.take k) + wts (l.cs.take j)))) (fun _ i _ => l.n - (intOf i).toNat)
      case atStart => exact ⟨on, 0, d, Nat.zero_le _, rfl, rfl, rfl, Lib.hid (by simpa [wts] using HC.out)⟩
      case round =>
        obtain ⟨on', j, d', hj, rfl, rfl, rfl, HC'⟩ := hrel
        rcases (by omega : j < l.n ∨ l.n ≤ j) with hlt' | hge'
        · obtain ⟨c, hcj⟩ : ∃ c, l.cs[j]? = some c := (H.out.recs l (List.mem_of_getElem? HL.out)).1.at hlt'
          obtain ⟨g', off', x, hla, hx, hr⟩ := (H.out.recs l (List.mem_of_getElem? HL.out)).1.get j c hcj
          have q2 : (j : Int) < (l.n : Int) := by omega
          have ex := hr.len
          have FC := Lib.hid (HF.out l (List.mem_of_getElem? HL.out) c (List.mem_of_getElem? hcj))
          have HCJ := Lib.hid hcj
          rw [hla] at hc
          have x10 := hx.c10
          have x11 := hx.c11
          rw [ex.1] at x10
          rw [ex.2] at x11
          have f1 := FC.out.1
          have f2 := FC.out.2
          have f3 := HC'.out.2
          clear hx hr ex hcj
          rcases (by omega : on' ≤ 300 ∨ 300 < on') with h3 | h3
          · have q3 : (on' : Int) ≤ (300 : Int) := by omega
            have NX := Lib.hid (HC'.out.next h3 FC.out)
            obtain ⟨tl, htl⟩ : ∃ tl, tl = c.ts.length := ⟨_, rfl⟩
            obtain ⟨dl, hdl⟩ : ∃ dl, dl = c.ds.length := ⟨_, rfl⟩
            rw [← htl] at x10 f1 NX
            rw [← hdl] at x11 f2 NX
            have r1 : IntKind.i64.wrap ((on' : Int) + 1) = ((on' + 1 : Nat) : Int) := by rw [IntWalk.i64_in _ (by omega)]; omega
            have r2 : IntKind.i64.wrap (((on' + 1 : Nat) : Int) + (tl : Int)) = ((on' + 1 + tl : Nat) : Int) := by rw [IntWalk.i64_in _ (by omega)]; omega
            have r3 : IntKind.i64.wrap (((on' + 1 + tl : Nat) : Int) + (dl : Int)) = ((on' + 1 + tl + dl : Nat) : Int) := by rw [IntWalk.i64_in _ (by omega)]; omega
            go_wp2_with fail
            go_quiet (fail)
            go_wp2_with fail
            go_roundw
            case rel =>
              refine ⟨on' + 1 + tl + dl, j + 1, _, by omega, ?_, by go_num, rfl, Lib.hid ?_⟩
              · first | rfl | go_num
              · rw [take_snoc HCJ.out, wts_snoc, ← Nat.add_assoc]
                exact NX.out
            case measure => simp [intOf]; omega
          · have q3 : ¬ (on' : Int) ≤ (300 : Int) := by omega
            go_wp2_with fail
            go_roundw
            case rel => exact ⟨on', k + 1, d', by omega, rfl, by go_num, rfl, Lib.hid (HC'.out.over h3)⟩
            case measure => simp [intOf]; omega
        · have q2 : ¬ (j : Int) < (l.n : Int) := by omega
          obtain rfl : j = l.n := by omega
          go_wp2_with fail
          go_roundw
          case rel =>
            refine ⟨on', k + 1, d', by omega, rfl, by go_num, rfl, Lib.hid ?_⟩
            rw [take_snoc HL.out, wtl_snoc]
            have h5 := HC'.out
            rwa [List.take_of_length_le (l := l.cs) (by rw [(H.out.recs l (List.mem_of_getElem? HL.out)).1.len]; exact Nat.le_refl _)] at h5
          case measure => simp [intOf]; omega
    · have q1 : ¬ (k : Int) < (n : Int) := by omega
      have h5 := HC.out
      rw [List.take_of_length_le (by rw [H.out.len]; exact hge)] at h5
      rcases (by omega : on ≤ 300 ∨ 300 < on) with h3 | h3
      · have q3 : (on : Int) ≤ (300 : Int) := by omega
        have SM : Hid (Small ls) := ⟨by rw [H.out.len]; omega, by have := h5.1; omega⟩
        clear h5
        go_wp2_with fail
        go_ret
        exact ⟨true, rfl, fun _ => SM.out, _, rfl⟩
      · have q3 : ¬ (on : Int) ≤ (300 : Int) := by omega
        clear h5
        go_wp2_with fail
        go_ret
        exact ⟨false, rfl, (fun h => by cases h), _, rfl⟩

end Go.Proofs.Ythgkhhgabpebmaa
