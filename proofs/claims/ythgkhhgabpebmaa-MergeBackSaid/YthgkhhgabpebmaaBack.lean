/- The walk of 'MergeBack'. -/
import Derived.Test.YthgkhhgabpebmaaChain
import Derived.Test.YthgkhhgabpebmaaTurned
namespace Go.Proofs.Ythgkhhgabpebmaa
open Go.RowKit
set_option linter.unusedVariables false
set_option linter.unusedSimpArgs false

theorem from_head {cs : List RC} {at_ : Int} (hr : Rising cs) {c : RC} (hc : c ∈ cs) (hl : c.lsn = at_) : ∃ d F, fromOf at_ cs = d :: F ∧ d.lsn = at_ := by
  have hm : c ∈ fromOf at_ cs := List.mem_filter.2 ⟨hc, by simp [hl]⟩
  have hp : (fromOf at_ cs).Pairwise (fun a b => a.lsn < b.lsn) := hr.pairwise.filter _
  rcases hF : fromOf at_ cs with _ | ⟨d, F⟩
  · rw [hF] at hm; simp at hm
  · refine ⟨d, F, rfl, ?_⟩
    rw [hF] at hm hp
    have hd : d ∈ fromOf at_ cs := by rw [hF]; exact List.mem_cons_self
    have h1 : at_ ≤ d.lsn := by simpa using (List.mem_filter.1 hd).2
    rcases List.mem_cons.1 hm with rfl | hm
    · exact hl
    · have := List.rel_of_pairwise_cons hp hm
      omega

theorem one_log {w : World} {a : Option Addr} {n cap : Nat} {cs : List RC} (h : Recs w a n cs) (h1 : n ≤ cap) (h2 : cap ≤ 9223372036854775807) (h3 : a = none → cap = 0) :
    Logs (w.alloc (.cells #[.slice a n cap] 25)) (some ⟨w.heap.size, 0, none⟩) 1 [⟨a, n, cap, cs⟩] := by
  have hb := new_one w 25 [.slice a n cap]
  refine ⟨rfl, fun j l hl => ?_, fun l hl => ?_, fun l hl => ?_⟩
  · have hj : j < 1 := (List.getElem?_eq_some_iff.1 hl).1
    obtain rfl : j = 0 := by omega
    simp at hl
    subst hl
    exact ⟨w.heap.size, 0, rfl, hb.1.at rfl⟩
  · rw [List.mem_singleton] at hl
    subst hl
    exact ⟨h.keep hb.2, h1, h2⟩
  · rw [List.mem_singleton] at hl
    subst hl
    exact h3

set_option maxHeartbeats 4000000 in
set_option maxRecDepth 1000000 in
theorem mergeBack_walk (a : Option Addr) (n cap : Nat) (at0 : Int) (cs : List RC) (w : World) (h : Recs w a n cs) (hf : ∀ c ∈ cs, c.fit) (hcap : n ≤ cap) (hn : cap ≤ 9223372036854775807) (hnil : a = none → cap = 0) :
    Calls Try.prog 6 #[.slice a n cap, .int .u64 at0] w (LawPost w) := by
  have H := Lib.hid h
  have LG := Lib.hid (one_log h hcap hn hnil)
  have HF : Hid (∀ l ∈ [(⟨a, n, cap, cs⟩ : Lg)], ∀ c ∈ l.cs, c.fit) := fun l hl c hc => by
    rw [List.mem_singleton] at hl
    subst hl
    exact hf c hc
  have KA : Hid (Below w.heap.size w (w.alloc (.cells #[.slice a n cap] 25))) := ((Keep.refl (fun _ => False) w).alloc _).below (Nat.le_refl _) (fun _ _ h => h)
  clear h hf hnil
  go_enter Try.func6, Try.ntmps6
  go_wp2_with fail
  refine (small_any (some ⟨w.heap.size, 0, none⟩) 1 1 [⟨a, n, cap, cs⟩] _ LG.out HF.out (by omega)).mono ?_
  rintro e w1 ⟨b, rfl, hb, d, rfl⟩
  have B1 : Hid (Below w.heap.size w ((w.alloc (.cells #[.slice a n cap] 25)).drewN d)) := below_drewN KA.out d
  clear LG KA HF
  generalize (w.alloc (.cells #[.slice a n cap] 25)).drewN d = w1 at B1 ⊢
  rcases b with _ | _
  · clear hb
    go_wp2_with fail
    refine (lives_yes w1).mono ?_
    rintro e w9 ⟨rfl, hB⟩
    have B9 := Lib.hid (below_on B1.out hB)
    clear hB
    go_wp2_with fail
    go_ret
    exact ⟨rfl, B9.out⟩
  have SM := Lib.hid (hb rfl)
  have FW : Hid (∀ c ∈ cs, c.few) := fun c hc => (hb rfl).few.each _ List.mem_cons_self c hc
  have h300 : n ≤ 300 := by
    have h1 := SM.out.recs
    have h2 := wts_len cs
    have h3 := H.out.len
    have h4 : wtl [(⟨a, n, cap, cs⟩ : Lg)] = wts cs := by simp [wtl]
    omega
  clear hb SM
  have H1 := Lib.hid (H.out.below B1.out)
  go_wp2_with fail
  refine (chain_any a n cap cs at0 w1 H1.out FW.out (by omega)).mono ?_
  rintro e w2 ⟨r, oa, on, oc, D, xs, rfl, hT, hB, hD1, hD2, hD3, hD4⟩
  have B2 := Lib.hid (below_on B1.out hB)
  have T2 := Lib.hid hT
  have H2 := Lib.hid (H1.out.below hB)
  have hDL : D.length = on := hT.recs.len
  have hon : on ≤ 300 := by have := H.out.len; omega
  have HDL := Lib.hid hDL
  clear hT hB hD1 hD2 hDL B1 H1
  by_cases h0 : r = 0
  case neg =>
    obtain ⟨rfl, hor⟩ := hD4 h0
    obtain rfl : on = 0 := HDL.out.symm
    have HOR := Lib.hid hor
    clear hD3 hD4 hor
    by_cases hat : at0 = 0
    · subst hat
      have NR : Hid (¬ Rising cs) := by
        rcases HOR.out with h | h
        · exact absurd rfl h
        · exact h
      go_wp2_with fail
      refine (refRises_any a n cap cs w2 H2.out (by omega)).mono ?_
      rintro e w3 ⟨b, rfl, hb, d, rfl⟩
      obtain rfl : b = false := by
        rcases b with _ | _
        · rfl
        · exact absurd (hb.1 rfl) NR.out
      have B3 := Lib.hid (below_drewN B2.out d)
      clear hb
      generalize w2.drewN d = w3 at B3 ⊢
      go_wp2_with fail
      refine (lives_yes w3).mono ?_
      rintro e w9 ⟨rfl, hB⟩
      have B9 := Lib.hid (below_on B3.out hB)
      clear hB
      go_wp2_with fail
      go_ret
      exact ⟨rfl, B9.out⟩
    · go_wp2_with fail
      refine (lives_yes w2).mono ?_
      rintro e w9 ⟨rfl, hB⟩
      have B9 := Lib.hid (below_on B2.out hB)
      clear hB
      go_wp2_with fail
      go_ret
      exact ⟨rfl, B9.out⟩
  subst h0
  obtain ⟨hri, hch⟩ := hD3 rfl
  have RI := Lib.hid hri
  have CH := Lib.hid hch
  clear hD3 hD4 hri hch
  go_wp2_with fail
  go_loopw [7, 8] (fun wv iv wr => ∃ (k : Nat) (want : Int), k ≤ on ∧ wv = .int .u64 want ∧ iv = .int .i64 k ∧ Hid (Chained cs want (D.drop k)) ∧ Hid (Told wr w1.heap.size oa on oc D xs) ∧ Hid (Below w.heap.size w wr)) (fun _ iv _ => on - (intOf iv).toNat)
  case atStart => exact ⟨0, at0, Nat.zero_le _, rfl, rfl, CH, T2, B2⟩
  case round =>
    obtain ⟨k, want, hk, rfl, rfl, HC, T, B⟩ := hrel
    clear T2 B2 CH H2
    rcases (by omega : k < on ∨ on ≤ k) with hlt | hge
    · obtain ⟨c, hc⟩ : ∃ c, D[k]? = some c := ⟨_, List.getElem?_eq_getElem (by rw [HDL.out]; exact hlt)⟩
      obtain ⟨g, off, x, rfl, hx, hr⟩ := T.out.recs.get k c hc
      have C := Lib.hid hc
      obtain ⟨hw0, hcm, hcl, hcp, hcr⟩ : Chained cs want (c :: D.drop (k + 1)) := by
        have h1 := HC.out
        have h2 : D.drop k = c :: D.drop (k + 1) := by
          obtain ⟨h1, rfl⟩ := List.getElem?_eq_some_iff.1 hc
          exact List.drop_eq_getElem_cons h1
        rwa [h2] at h1
      have x1 := hx.c1
      have x3 := hx.c3
      rw [hr.plain.lsn, hcl] at x1
      rw [hr.plain.prev] at x3
      obtain ⟨d, F, hF, hdl⟩ := from_head RI.out hcm hcl
      have HCR := Lib.hid hcr
      have HFR := Lib.hid hF
      have HDLS := Lib.hid hdl
      have q1 : (k : Int) < (on : Int) := by omega
      have q2 : ¬ want ≤ c.prev := by omega
      have H3 := Lib.hid (H.out.below B.out)
      clear hx hr hc hw0 hcm hcl hcr hF hdl hcp
      go_wp2_with fail
      refine (from_any a n cap cs want wr H3.out FW.out (by omega)).mono ?_
      rintro e w4 ⟨fa, fn, fc, fs, rfl, hT, hB⟩
      have B4 := Lib.hid (below_on B.out hB)
      have T4 := Lib.hid (T.out.none (below_keep hB))
      obtain ⟨m, rfl⟩ : ∃ m, fn = m + 1 := by
        have h1 := hT.recs.len
        rw [HFR.out] at h1
        exact ⟨F.length, h1.symm⟩
      have H4 := Lib.hid (H3.out.below hB)
      clear hT hB x1 x3 H3 T B
      go_wp2_with fail
      refine (from_any a n cap cs want w4 H4.out FW.out (by omega)).mono ?_
      rintro e w5 ⟨fb, fm, fd, fs2, rfl, hT, hB⟩
      have B5 := Lib.hid (below_on B4.out hB)
      have T5 := Lib.hid (T4.out.none (below_keep hB))
      have hT2 := hT.recs
      rw [HFR.out] at hT2
      obtain ⟨g2, off2, y, rfl, hy, hr2⟩ := hT2.get 0 d rfl
      obtain ⟨m2, rfl⟩ : ∃ m2, fm = m2 + 1 := ⟨F.length, hT2.len.symm⟩
      have y1 := hy.c1
      rw [hr2.plain.lsn, HDLS.out] at y1
      simp only [Nat.zero_mul, Nat.add_zero] at y1
      obtain ⟨g', off', x', e', hx', hr'⟩ := T5.out.recs.get k c C.out
      simp only [Option.some.injEq, Addr.mk.injEq, and_true] at e'
      obtain ⟨rfl, rfl⟩ := e'
      have x3 := hx'.c3
      rw [hr'.plain.prev] at x3
      clear hT hB hT2 hy hr2 hx' hr' T4 B4 H4 q2
      go_wp2_with fail
      go_roundw
      case rel => exact ⟨k + 1, c.prev, by omega, rfl, by go_num, HCR, T5, B5⟩
      case measure => simp [intOf]; omega
    · obtain rfl : k = on := by omega
      obtain rfl : want = 0 := by
        have h1 := HC.out
        rw [List.drop_of_length_le (by rw [HDL.out]; exact Nat.le_refl _)] at h1
        exact h1
      go_wp2_with fail
      refine (lives_yes wr).mono ?_
      rintro e w9 ⟨rfl, hB⟩
      have B9 := Lib.hid (below_on B.out hB)
      clear hB
      go_wp2_with fail
      go_ret
      exact ⟨rfl, B9.out⟩

end Go.Proofs.Ythgkhhgabpebmaa
