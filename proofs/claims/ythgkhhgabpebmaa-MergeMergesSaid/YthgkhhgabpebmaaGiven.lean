/- 'given' of the laws over merge: where it says false, no row has that number. -/
import Derived.Test.YthgkhhgabpebmaaTurnP
namespace Go.Proofs.Ythgkhhgabpebmaa
open Go.RowKit
set_option linter.unusedVariables false
set_option linter.unusedSimpArgs false

def RC.lacks (c : RC) (id : Int) : Prop := ∀ p ∈ c.ts, p.1 ≠ id

/-- What 'given' leaves. -/
def GivenPost (ls : List Lg) (id : Int) (w : World) (e : Ending) (w' : World) : Prop :=
  ∃ b : Bool, e = .returned (.bool b) ∧ (b = false → ∀ l ∈ ls, ∀ c ∈ l.cs, c.lacks id) ∧ w' = w

theorem all_snoc {α : Type} {P : α → Prop} {l : List α} {k : Nat} {x : α} (hx : l[k]? = some x) (h : ∀ y ∈ l.take k, P y) (h1 : P x) : ∀ y ∈ l.take (k + 1), P y := by
  intro y hy
  rw [take_snoc hx] at hy
  rcases List.mem_append.1 hy with hy | hy
  · exact h y hy
  · rw [List.mem_singleton] at hy
    subst hy
    exact h1

set_option maxHeartbeats 1000000 in
set_option maxRecDepth 100000 in
theorem given_any (a : Option Addr) (n cap : Nat) (ls : List Lg) (id : Int) (w : World) (h : Logs w a n ls) (hf : Few ls) (hn : n ≤ 1000) :
    Calls Try.prog 28 #[.slice a n cap, .int .i64 id] w (GivenPost ls id w) := by
  have H := Lib.hid h
  have F := Lib.hid hf
  clear h hf
  go_enter Try.func28, Try.ntmps28
  go_wp2_with fail
  go_loopw [5] (fun i wr => ∃ (k : Nat), k ≤ n ∧ i = .int .i64 k ∧ wr = w ∧ Hid (∀ l ∈ ls.take k, ∀ c ∈ l.cs, c.lacks id)) (fun i _ => n - (intOf i).toNat)
  case atStart => exact ⟨0, Nat.zero_le _, rfl, rfl, Lib.hid (fun l hl => by simp at hl)⟩
  case round =>
    obtain ⟨k, hk, rfl, rfl, HA⟩ := hrel
    rcases (by omega : k < n ∨ n ≤ k) with hlt | hge
    · obtain ⟨l, hl⟩ := H.out.at hlt
      obtain ⟨g, off, rfl, hc⟩ := H.out.get k l hl
      have HL := Lib.hid hl
      have hln : l.n ≤ 100000 := by have := F.out.len (List.mem_of_getElem? hl); rw [(H.out.recs l (List.mem_of_getElem? hl)).1.len] at this; exact this
      have q1 : (k : Int) < (n : Int) := by omega
      clear hl
      go_wp2_with fail
      go_loopw [6] (fun i wr' => ∃ (j : Nat), j ≤ l.n ∧ i = .int .i64 j ∧ wr' = wr ∧ Hid (∀ c ∈ l.cs.take j, c.lacks id)) (fun i _ => l.n - (intOf i).toNat)
      case atStart => exact ⟨0, Nat.zero_le _, rfl, rfl, Lib.hid (fun c hc => by simp at hc)⟩
      case round =>
        obtain ⟨j, hj, rfl, rfl, HB⟩ := hrel
        rcases (by omega : j < l.n ∨ l.n ≤ j) with hlt' | hge'
        · obtain ⟨c, hcj⟩ : ∃ c, l.cs[j]? = some c := (H.out.recs l (List.mem_of_getElem? HL.out)).1.at hlt'
          obtain ⟨g', off', x, hla, hx, hr⟩ := (H.out.recs l (List.mem_of_getElem? HL.out)).1.get j c hcj
          have q2 : (j : Int) < (l.n : Int) := by omega
          have x10 := hx.c10
          rw [hla] at hc
          have HCJ := Lib.hid hcj
          have TS := Lib.hid hr.ts
          have ht1 : x.tl ≤ 1000 := by have := hr.len; have h2 := (F.out.each l (List.mem_of_getElem? HL.out) c (List.mem_of_getElem? hcj)).1; omega
          have TL := Lib.hid hr.len.1
          clear hx hr hcj
          go_wp2_with fail
          go_loopw [7] (fun i wq => ∃ (m : Nat), m ≤ x.tl ∧ i = .int .i64 m ∧ wq = wr ∧ Hid (∀ p ∈ c.ts.take m, p.1 ≠ id)) (fun i _ => x.tl - (intOf i).toNat)
          case atStart => exact ⟨0, Nat.zero_le _, rfl, rfl, Lib.hid (fun c hc => by simp at hc)⟩
          case round =>
            obtain ⟨m, hm, rfl, rfl, HC⟩ := hrel
            rcases (by omega : m < x.tl ∨ x.tl ≤ m) with hlt2 | hge2
            · obtain ⟨g2, off2, ⟨p1, p2, p3⟩, hta, hz, c0, c1, c2⟩ := TS.out.txn hlt2
              have q3 : (m : Int) < (x.tl : Int) := by omega
              have HZ := Lib.hid hz
              rw [hta] at x10
              simp only at c0
              clear hz c1 c2
              by_cases he : p1 = id
              · go_wp2_with fail
                go_ret
                exact ⟨true, rfl, (fun h => by cases h), rfl⟩
              · go_wp2_with fail
                go_roundw
                case rel => exact ⟨m + 1, by omega, by go_num, (by first | rfl | trivial), Lib.hid (all_snoc HZ.out HC.out he)⟩
                case measure => simp [intOf]; omega
            · have q3 : ¬ (m : Int) < (x.tl : Int) := by omega
              have HD : Hid (c.lacks id) := by
                have h5 := HC.out
                rw [List.take_of_length_le (by rw [← TL.out]; exact hge2)] at h5
                exact h5
              go_wp2_with fail
              go_roundw
              case rel => exact ⟨j + 1, by omega, by go_num, (by first | rfl | trivial), Lib.hid (all_snoc HCJ.out HB.out HD.out)⟩
              case measure => simp [intOf]; omega
        · have q2 : ¬ (j : Int) < (l.n : Int) := by omega
          have HD : Hid (∀ c ∈ l.cs, c.lacks id) := by
            have h5 := HB.out
            rw [List.take_of_length_le (by rw [(H.out.recs l (List.mem_of_getElem? HL.out)).1.len]; exact hge')] at h5
            exact h5
          go_wp2_with fail
          go_roundw
          case rel => exact ⟨k + 1, by omega, by go_num, (by first | rfl | trivial), Lib.hid (all_snoc HL.out HA.out HD.out)⟩
          case measure => simp [intOf]; omega
    · have q1 : ¬ (k : Int) < (n : Int) := by omega
      have h5 := HA.out
      rw [List.take_of_length_le (by rw [H.out.len]; exact hge)] at h5
      have HD := Lib.hid h5
      clear h5
      go_wp2_with fail
      go_ret
      exact ⟨false, rfl, fun _ => HD.out, rfl⟩

end Go.Proofs.Ythgkhhgabpebmaa
