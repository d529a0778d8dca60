/- 'Rises' of the program, and of the document. -/
import Derived.Test.YthgkhhgabpebmaaRec
import Derived.IntWalk
namespace Go.Proofs.Ythgkhhgabpebmaa
open Go.RowKit
set_option linter.unusedVariables false
set_option linter.unusedSimpArgs false

/-- Each is greater than the one ahead. -/
def Rising (cs : List RC) : Prop := ∀ (j : Nat) (c d : RC), cs[j]? = some c → cs[j + 1]? = some d → c.lsn < d.lsn

theorem Rising.pairwise {cs : List RC} (h : Rising cs) : cs.Pairwise (fun a b => a.lsn < b.lsn) := by
  induction cs with
  | nil => exact .nil
  | cons c r ih =>
    have hr : Rising r := fun j a b ha hb => h (j + 1) a b (by simpa using ha) (by simpa using hb)
    have ihr := ih hr
    refine .cons (fun d hd => ?_) ihr
    rcases r with _ | ⟨e, r⟩
    · simp at hd
    · have h0 := h 0 c e rfl rfl
      rcases List.mem_cons.1 hd with rfl | hd
      · exact h0
      · have := List.rel_of_pairwise_cons ihr hd
        omega

theorem rising_of {cs : List RC} (h : cs.Pairwise (fun a b => a.lsn < b.lsn)) : Rising cs := by
  intro j c d hc hd
  obtain ⟨h1, rfl⟩ := List.getElem?_eq_some_iff.1 hc
  obtain ⟨h2, rfl⟩ := List.getElem?_eq_some_iff.1 hd
  exact List.pairwise_iff_getElem.1 h j (j + 1) h1 h2 (by omega)

theorem Recs.at {w : World} {a : Option Addr} {n : Nat} {cs : List RC} (h : Recs w a n cs) {j : Nat} (hj : j < n) : ∃ c, cs[j]? = some c := ⟨_, List.getElem?_eq_getElem (by rw [h.len]; exact hj)⟩

/-- Whether they rise, as a Bool of the walk. -/
def RisesPost (cs : List RC) (w : World) (e : Ending) (w' : World) : Prop := ∃ b : Bool, e = .returned (.bool b) ∧ (b = true ↔ Rising cs) ∧ ∃ d, w' = w.drewN d

set_option maxHeartbeats 1000000 in
set_option maxRecDepth 100000 in
theorem rises_any (a : Option Addr) (n cap : Nat) (cs : List RC) (w : World) (h : Recs w a n cs) (hn : n ≤ 9223372036854775807) :
    Calls Try.prog 12 #[.slice a n cap] w (RisesPost cs w) := by
  have H := Lib.hid h
  clear h
  go_enter Try.func12, Try.ntmps12
  go_wp2_with fail
  go_loopw [6] (fun i wr => ∃ (k d : Nat), k ≤ n ∧ i = .int .i64 k ∧ wr = w.drewN d ∧ Hid (∀ (j : Nat) (c e : RC), j + 1 < k → cs[j]? = some c → cs[j + 1]? = some e → c.lsn < e.lsn)) (fun i _ => n - (intOf i).toNat)
  case atStart => exact ⟨0, 0, Nat.zero_le _, rfl, rfl, Lib.hid (fun j c e hj => by omega)⟩
  case round =>
    obtain ⟨k, d, hk, rfl, rfl, HS⟩ := hrel
    rcases (by omega : k < n ∨ n ≤ k) with hlt | hge
    · obtain ⟨c, hc⟩ := H.out.at hlt
      obtain ⟨g, off, x, rfl, hx, hr⟩ := H.out.get k c hc
      have x1 := hx.c1
      have XL := Lib.hid hr.plain.lsn
      have HC := Lib.hid hc
      clear hx hr hc
      rcases Nat.eq_zero_or_pos k with h0 | hpos
      · subst h0
        go_wp2_with fail
        go_quiet (fail)
        go_wp2_with fail
        go_roundw
        case rel => exact ⟨1, _, by omega, by go_num, rfl, Lib.hid (fun j c e hj => by omega)⟩
        case measure => simp [intOf]; omega
      · obtain ⟨p, hp⟩ : ∃ p, p + 1 = k := ⟨k - 1, by omega⟩
        obtain ⟨c', hc'⟩ := H.out.at (show p < n by omega)
        obtain ⟨g', off', x', e', hx', hr'⟩ := H.out.get p c' hc'
        simp only [Option.some.injEq, Addr.mk.injEq, and_true] at e'
        obtain ⟨rfl, rfl⟩ := e'
        have x1' := hx'.c1
        have XL' := Lib.hid hr'.plain.lsn
        have HC' := Lib.hid hc'
        have HP := Lib.hid hp
        have q1 : IntKind.i64.wrap ((k : Int) - 1) = (p : Int) := by rw [IntWalk.i64_in _ (by omega)]; omega
        have q4 : (0 : Int) < (k : Int) := by omega
        have q5 : (p : Int) < (n : Int) := by omega
        have q6 : (k : Int) < (n : Int) := by omega
        clear hx' hr' hc' hp
        by_cases hle : x.lsn ≤ x'.lsn
        · have NR : Hid (¬ Rising cs) := fun hR => by
            have := hR p c' c HC'.out (by rw [HP.out]; exact HC.out)
            have := XL.out; have := XL'.out; omega
          go_wp2_with fail
          go_quiet (fail)
          go_wp2_with fail
          go_ret
          exact ⟨false, rfl, ⟨(fun h => by cases h), fun h => absurd h NR.out⟩, _, by rw [World.drewN_drewN]⟩
        · have LT : Hid (x'.lsn < x.lsn) := by show _ < _; omega
          have HS2 : Hid (∀ (j : Nat) (c e : RC), j + 1 < k + 1 → cs[j]? = some c → cs[j + 1]? = some e → c.lsn < e.lsn) := fun j c1 e1 hj h1 h2 => by
            by_cases e : j + 1 < k
            · exact HS.out j c1 e1 e h1 h2
            · have hpo := HP.out
              obtain rfl : j = p := by omega
              rw [HP.out] at h2
              have a1 := HC'.out
              have a2 := HC.out
              rw [a1] at h1
              rw [a2] at h2
              simp only [Option.some.injEq] at h1 h2
              subst h1 h2
              have := XL.out; have := XL'.out; have := LT.out; omega
          go_wp2_with fail
          go_quiet (fail)
          go_wp2_with fail
          go_roundw
          case rel => exact ⟨k + 1, _, by omega, by go_num, rfl, HS2⟩
          case measure => simp [intOf]; omega
    · go_wp2_with fail
      go_ret
      refine ⟨true, rfl, ⟨fun _ j c e h1 h2 => HS.out j c e ?_ h1 h2, fun _ => rfl⟩, _, rfl⟩
      have := (List.getElem?_eq_some_iff.1 h2).1
      rw [H.out.len] at this
      omega

set_option maxHeartbeats 1000000 in
set_option maxRecDepth 100000 in
theorem refRises_any (a : Option Addr) (n cap : Nat) (cs : List RC) (w : World) (h : Recs w a n cs) (hn : n ≤ 9223372036854775800) :
    Calls Try.prog 23 #[.slice a n cap] w (RisesPost cs w) := by
  have H := Lib.hid h
  clear h
  go_enter Try.func23, Try.ntmps23
  go_wp2_with fail
  go_loopw [3] (fun i wr => ∃ (k d : Nat), 1 ≤ k ∧ k ≤ n + 1 ∧ i = .int .i64 k ∧ wr = w.drewN d ∧ Hid (∀ (j : Nat) (c e : RC), j + 1 < k → cs[j]? = some c → cs[j + 1]? = some e → c.lsn < e.lsn)) (fun i _ => n + 1 - (intOf i).toNat)
  case atStart => exact ⟨1, 0, Nat.le_refl _, by omega, rfl, rfl, Lib.hid (fun j c e hj => by omega)⟩
  case round =>
    obtain ⟨k, d, hk1, hk, rfl, rfl, HS⟩ := hrel
    rcases (by omega : k < n ∨ n ≤ k) with hlt | hge
    · obtain ⟨c, hc⟩ := H.out.at hlt
      obtain ⟨g, off, x, rfl, hx, hr⟩ := H.out.get k c hc
      have x1 := hx.c1
      have XL := Lib.hid hr.plain.lsn
      have HC := Lib.hid hc
      clear hx hr hc
      obtain ⟨p, hp⟩ : ∃ p, p + 1 = k := ⟨k - 1, by omega⟩
      obtain ⟨c', hc'⟩ := H.out.at (show p < n by omega)
      obtain ⟨g', off', x', e', hx', hr'⟩ := H.out.get p c' hc'
      simp only [Option.some.injEq, Addr.mk.injEq, and_true] at e'
      obtain ⟨rfl, rfl⟩ := e'
      have x1' := hx'.c1
      have XL' := Lib.hid hr'.plain.lsn
      have HC' := Lib.hid hc'
      have HP := Lib.hid hp
      have q1 : IntKind.i64.wrap ((k : Int) - 1) = (p : Int) := by rw [IntWalk.i64_in _ (by omega)]; omega
      have q5 : (p : Int) < (n : Int) := by omega
      have q6 : (k : Int) < (n : Int) := by omega
      clear hx' hr' hc' hp
      by_cases hle : x.lsn ≤ x'.lsn
      · have NR : Hid (¬ Rising cs) := fun hR => by
          have := hR p c' c HC'.out (by rw [HP.out]; exact HC.out)
          have := XL.out; have := XL'.out; omega
        go_wp2_with fail
        go_quiet (fail)
        go_wp2_with fail
        go_ret
        exact ⟨false, rfl, ⟨(fun h => by cases h), fun h => absurd h NR.out⟩, _, by rw [World.drewN_drewN]⟩
      · have LT : Hid (x'.lsn < x.lsn) := by show _ < _; omega
        have HS2 : Hid (∀ (j : Nat) (c e : RC), j + 1 < k + 1 → cs[j]? = some c → cs[j + 1]? = some e → c.lsn < e.lsn) := fun j c1 e1 hj h1 h2 => by
          by_cases e : j + 1 < k
          · exact HS.out j c1 e1 e h1 h2
          · have hpo := HP.out
            obtain rfl : j = p := by omega
            rw [HP.out] at h2
            have a1 := HC'.out
            have a2 := HC.out
            rw [a1] at h1
            rw [a2] at h2
            simp only [Option.some.injEq] at h1 h2
            subst h1 h2
            have := XL.out; have := XL'.out; have := LT.out; omega
        go_wp2_with fail
        go_quiet (fail)
        go_wp2_with fail
        go_roundw
        case rel => exact ⟨k + 1, _, by omega, by omega, by go_num, rfl, HS2⟩
        case measure => simp [intOf]; omega
    · go_wp2_with fail
      go_ret
      refine ⟨true, rfl, ⟨fun _ j c e h1 h2 => HS.out j c e ?_ h1 h2, fun _ => rfl⟩, _, rfl⟩
      have := (List.getElem?_eq_some_iff.1 h2).1
      rw [H.out.len] at this
      omega

end Go.Proofs.Ythgkhhgabpebmaa
