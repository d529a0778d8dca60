/- The walk of 'MergeTurned'. -/
import Derived.Test.YthgkhhgabpebmaaTurnP
namespace Go.Proofs.Ythgkhhgabpebmaa
open Go.RowKit
set_option linter.unusedVariables false
set_option linter.unusedSimpArgs false

/-- What a law over merge leaves. -/
def LawPost (w : World) (e : Ending) (w' : World) : Prop := e = .returned (.bool true) ∧ Below w.heap.size w w'

set_option maxHeartbeats 4000000 in
set_option maxRecDepth 1000000 in
theorem mergeTurned_walk (a : Option Addr) (n cap : Nat) (ls : List Lg) (w : World) (h : Logs w a n ls) (hf : ∀ l ∈ ls, ∀ c ∈ l.cs, c.fit) (hcap : n ≤ cap) (hn : cap ≤ 9223372036854775807) (hnil : a = none → cap = 0) :
    Calls Try.prog 3 #[.slice a n cap] w (LawPost w) := by
  obtain ⟨i0, hi0, hz0, hz1, hz2⟩ := info_parts info25
  have H := Lib.hid h
  have HF := Lib.hid hf
  have HN := Lib.hid hnil
  clear h hf hnil
  go_enter Try.func3, Try.ntmps3
  go_wp2_with fail
  refine (small_any a n cap ls w H.out HF.out (by omega)).mono ?_
  rintro e w1 ⟨b, rfl, hb, d, rfl⟩
  have H1 : Hid (Logs (w.drewN d) a n ls) := H.out.below (below_drewN (Below.refl _ _) d)
  have B1 : Hid (Below w.heap.size w (w.drewN d)) := below_drewN (Below.refl _ _) d
  generalize w.drewN d = w1 at H1 B1 ⊢
  rcases b with _ | _
  · clear hb
    go_wp2_with fail
    refine (lives_yes w1).mono ?_
    rintro e w9 ⟨rfl, hB⟩
    have B9 := Lib.hid (below_on B1.out hB)
    clear hB
    go_wp2_with fail
    go_ret
    exact ⟨rfl, B9.out⟩
  have SM := Lib.hid (hb rfl)
  have FW := Lib.hid (hb rfl).few
  have h40 : n ≤ 40 := by rw [← H.out.len]; exact SM.out.logs
  clear hb H
  go_wp2_with fail
  refine (merge_any a n cap ls w1 H1.out FW.out).mono ?_
  rintro e w2 ⟨r, xa, xn, xc, X, xs, rfl, hM, hT, hB⟩
  have MX := Lib.hid hM
  have TX := Lib.hid hT
  have B2 := Lib.hid (below_on B1.out hB)
  have H2 := Lib.hid (H1.out.below hB)
  clear hM hT hB B1 H1
  go_wp2_with fail
  go_loopw [5, 6, 7] (fun o bv iv wr => ∃ (k on bn bc : Nat) (ba : Option Addr) (z : Int), bn + k = n ∧ z = (k : Int) - 1 ∧ on = lens (ls.drop k) ∧ o = .int .i64 on ∧ bv = .slice ba bn bc ∧ iv = .int .i64 z ∧ wr.ownsRow w2.heap.size 25 1 (.slice ba bn bc) bn ((ls.drop k).reverse.map Lg.val) ∧ Below w2.heap.size w2 wr) (fun _ _ iv _ => (intOf iv + 1).toNat)
  case atStart => exact ⟨n, 0, 0, 0, none, (n : Int) - 1, by omega, rfl, by simp [lens, List.drop_of_length_le, H2.out.len], rfl, rfl, by go_num, by simpa [List.drop_of_length_le, H2.out.len] using World.ownsRow_nil _ _ _ _, Below.refl _ _⟩
  case round =>
    obtain ⟨k, on, bn, bc, ba, z, hk, rfl, hon, rfl, rfl, rfl, hrow, hB⟩ := hrel
    have R := Lib.hid hrow
    have B := Lib.hid hB
    have hon2 : on ≤ 300 := by
      have h1 := lens_sub (List.drop_sublist k ls)
      have h2 := SM.out.recs
      have h3 := wts_len (ls.map Lg.cs).flatten
      unfold wtl at h2
      unfold lens at h1 hon
      omega
    clear hrow hB
    rcases Nat.eq_zero_or_pos k with h0 | hpos
    · subst h0
      obtain rfl : bn = n := by omega
      have ez : ((0 : Nat) : Int) - 1 = -1 := by omega
      rw [ez]
      have q1 : ¬ (0 : Int) ≤ -1 := by omega
      have RL : Hid (Logs wr ba bn ls.reverse) := row_logs (by simpa using R.out) (fun l hl => by
        obtain ⟨h1, h2⟩ := H2.out.recs l (List.mem_reverse.1 hl)
        exact ⟨h1.below B.out, h2⟩) (fun l hl => H2.out.nils l (List.mem_reverse.1 hl))
      have FR : Hid (Few ls.reverse) := FW.out.perm ls.reverse_perm.symm
      have HW := Lib.hid (H2.out.below B.out)
      have TW := Lib.hid (TX.out.none (below_keep B.out))
      have BW := Lib.hid (below_on B2.out B.out)
      have ON : Hid (on = lens ls) := by rw [Hid]; simpa using hon
      clear R B H2 TX B2 ez hon
      go_wp2_with fail
      refine (merge_any ba bn bc ls.reverse wr RL.out FR.out).mono ?_
      rintro e w4 ⟨r', ya, yn, yc, Y, ys, rfl, hM, hT, hB⟩
      obtain ⟨rfl, rfl⟩ := hM.unique MX.out (by rw [List.map_reverse]; exact (List.reverse_perm _))
      have TY := Lib.hid hT
      have TX4 := Lib.hid (TW.out.none (below_keep hB))
      have B4 := Lib.hid (below_on BW.out hB)
      have H4 := Lib.hid (HW.out.below hB)
      have exn : Y.length = xn := TX4.out.recs.len
      have eyn : Y.length = yn := TY.out.recs.len
      obtain rfl : xn = yn := by omega
      have YF : Hid (∀ c ∈ Y, c.few) := fun c hc => by
        by_cases h0 : r' = 0
        · subst h0
          obtain ⟨l', hl', hc'⟩ := List.mem_flatten.1 (MX.out.zero.2.1.subset hc)
          obtain ⟨m, hm, rfl⟩ := List.mem_map.1 hl'
          exact FW.out.each m hm c hc'
        · rw [MX.out.err h0] at hc
          simp at hc
      have YL : xn ≤ 1000000 := by
        by_cases h0 : r' = 0
        · subst h0
          have h1 := MX.out.zero.2.1.length_eq
          have h2 := FW.out.recs
          omega
        · have := MX.out.err h0
          rw [this] at exn
          simp at exn
          omega
      clear hM hT hB RL FR HW TW BW exn eyn
      go_wp2_with fail
      refine (sameRecords_yes xa ya xn xc yc Y w4 TX4.out.recs TY.out.recs YF.out YL).mono ?_
      rintro e w5 ⟨rfl, hK⟩
      have TX5 := Lib.hid (TX4.out.none hK)
      have B5 := Lib.hid (keep0_below B4.out hK (by have := B4.out.size; omega))
      have H5 := Lib.hid (H4.out.below (hK.below (Nat.le_refl _) (fun _ _ h => h)))
      clear hK TX4 TY B4 H4
      by_cases h0 : r' = 0
      case neg =>
        have ey := MX.out.err h0
        obtain rfl : xn = 0 := by have := TX5.out.recs.len; rw [ey] at this; exact this.symm
        clear ey
        go_wp2_with fail
        refine (lives_yes w5).mono ?_
        rintro e w9 ⟨rfl, hB⟩
        have B9 := Lib.hid (below_on B5.out hB)
        clear hB
        go_wp2_with fail
        go_ret
        exact ⟨rfl, B9.out⟩
      subst h0
      obtain rfl : on = xn := by
        have h1 := MX.out.zero.2.1.length_eq
        have h2 := TX5.out.recs.len
        have h3 := ON.out
        unfold lens at h3
        omega
      go_wp2_with fail
      refine (rises_any xa on xc Y w5 TX5.out.recs (by omega)).mono ?_
      rintro e w6 ⟨b, rfl, hb, d, rfl⟩
      obtain rfl : b = true := hb.2 MX.out.zero.2.2
      have H6 : Hid (Logs (w5.drewN d) a bn ls) := H5.out.below (below_drewN (Below.refl _ _) d)
      have B6 : Hid (Below w.heap.size w (w5.drewN d)) := below_drewN B5.out d
      have TX6 : Hid (Told (w5.drewN d) w1.heap.size xa on xc Y xs) := TX5.out.none (below_keep (below_drewN (Below.refl _ _) d))
      clear hb H5 B5 TX5 ON
      generalize w5.drewN d = w6 at H6 B6 TX6 ⊢
      rcases (by omega : bn < 2 ∨ 2 ≤ bn) with h2 | h2
      · have q2 : (bn : Int) < 2 := by omega
        go_wp2_with fail
        refine (lives_yes w6).mono ?_
        rintro e w9 ⟨rfl, hB⟩
        have B9 := Lib.hid (below_on B6.out hB)
        clear hB
        go_wp2_with fail
        go_ret
        exact ⟨rfl, B9.out⟩
      have q2 : ¬ (bn : Int) < 2 := by omega
      obtain ⟨g, off, rfl⟩ : ∃ g off, a = some ⟨g, off, none⟩ := by
        obtain ⟨l0, hl0⟩ := H6.out.at (show 0 < bn by omega)
        obtain ⟨g, off, ha, _⟩ := H6.out.get 0 l0 hl0
        exact ⟨g, off, ha⟩
      go_wp2_with fail
      refine (merge_any (some ⟨g, off, none⟩) 2 cap (ls.take 2) w6 (H6.out.take h2) (FW.out.sub (List.take_sublist 2 ls))).mono ?_
      rintro e w7 ⟨r, za, zn, zc, Z, zs, rfl, hM, hT, hB⟩
      obtain ⟨rfl, hp, hR⟩ := turned_first MX.out (by rw [← List.map_take]; exact hM)
      have ZP := Lib.hid hp
      have ZR := Lib.hid hR
      have TZ := Lib.hid hT
      have TX7 := Lib.hid (TX6.out.none (below_keep hB))
      have B7 := Lib.hid (below_on B6.out hB)
      have H7 := Lib.hid (H6.out.below hB)
      clear hM hT hB H6 TX6 B6 hp hR
      obtain ⟨vs, hvs⟩ : ∃ vs, vs = (ls.drop 2).map Lg.val := ⟨_, rfl⟩
      have HVS := Lib.hid hvs
      have OL : Hid ((w7.alloc (.cells #[.slice za zn zc] 25)).ownsRow w7.heap.size 25 1 (.slice (some ⟨w7.heap.size, 0, none⟩) 1 1) 1 [.slice za zn zc]) := World.ownsRow_lit w7 #[.slice za zn zc] 1 (Nat.le_refl _) (by unfold maxLen; omega) rfl
      have KA : Hid (Keep (fun _ => False) w7 (w7.alloc (.cells #[.slice za zn zc] 25))) := (Keep.refl _ _).alloc _
      have H7' := Lib.hid (H7.out.below (KA.out.below (Nat.le_refl _) (fun _ _ h => h)))
      clear hvs
      have SRC : Hid ((cap = 2 → ∀ ad c, Src (w7.alloc (.cells #[.slice za zn zc] 25)) (some ad) (bn - 2) c 1 vs) ∧ ∀ c, Src (w7.alloc (.cells #[.slice za zn zc] 25)) (some ⟨g, off + 2, none⟩) (bn - 2) c 1 vs) :=
        ⟨fun h2c ad c => by rw [HVS.out]; exact H7'.out.src_empty (by omega) ad, fun c => by rw [HVS.out]; exact H7'.out.src_drop h2⟩
      clear H7'
      have ZV : Hid (∀ l ∈ (⟨za, zn, zc, Z⟩ : Lg) :: ls.drop 2, l.a = none → l.c = 0) := fun l hl => by
        rcases List.mem_cons.1 hl with rfl | hl
        · exact (owns_nil TZ.out.row).1
        · exact H7.out.nils l (List.mem_of_mem_drop hl)
      have ZR2 : Hid (∀ l ∈ (⟨za, zn, zc, Z⟩ : Lg) :: ls.drop 2, Recs w7 l.a l.n l.cs ∧ l.n ≤ l.c ∧ l.c ≤ 9223372036854775807) := fun l hl => by
        rcases List.mem_cons.1 hl with rfl | hl
        · exact ⟨TZ.out.recs, (owns_nil TZ.out.row).2⟩
        · exact H7.out.recs l (List.mem_of_mem_drop hl)
      have FP : Hid (Few ((⟨za, zn, zc, Z⟩ : Lg) :: ls.drop 2)) := FW.out.put (z := ⟨za, zn, zc, Z⟩) (by rw [← List.map_take] at *; exact ZP.out) (by rw [H7.out.len]; exact h2)
      rcases (by omega : cap = 2 ∨ cap ≠ 2) with hc2 | hc2
      all_goals
        go_wp2_with (at_builtin; refine wpList_append_src rfl _ _ 22 rfl w7.heap.size 25 i0 (.slice none 0 0) 1 24 Try.underlying22 hi0 hz0 hz1 hz2 rfl (by decide) (.slice (some ⟨w7.heap.size, 0, none⟩) 1 1) 1 [.slice za zn zc] rfl ?_ _ (bn - 2) _ vs rfl ?_ (by unfold maxLen; omega) (by omega) ?_ ?_)
        · exact OL.out
        · first | exact SRC.out.1 hc2 _ _ | exact SRC.out.2 _
        · simp
        intro v' w8 hown hgrow hne
        obtain ⟨pa, pc, rfl⟩ := owns_shape hown
        clear hne
        have K8 : Hid (Keep (fun _ => False) w7 w8) := KA.out.grown hgrow (fun j hj => .inr (by simp [Value.ownBlock] at hj; omega))
        have B78 : Hid (Below w7.heap.size w7 w8) := K8.out.below (Nat.le_refl _) (fun _ _ h => h)
        have L8 : Hid (Logs w8 pa (1 + (bn - 2)) ((⟨za, zn, zc, Z⟩ : Lg) :: ls.drop 2)) := row_logs (by rw [List.map_cons, ← HVS.out]; exact hown) (fun l hl => ⟨(ZR2.out l hl).1.keep K8.out, (ZR2.out l hl).2⟩) ZV.out
        have TX8 := Lib.hid (TX7.out.none K8.out)
        have B8 := Lib.hid (below_on B7.out B78.out)
        clear hown hgrow K8 B78
        go_wp2_with fail
        refine (merge_any pa (1 + (bn - 2)) pc ((⟨za, zn, zc, Z⟩ : Lg) :: ls.drop 2) w8 L8.out FP.out).mono ?_
        rintro e w9 ⟨r, ua, un, uc, U, us, rfl, hM, hT, hB⟩
        obtain ⟨rfl, rfl⟩ := turned_second MX.out ZP.out ZR.out (by simpa using hM)
        have TU := Lib.hid hT
        have TX9 := Lib.hid (TX8.out.none (below_keep hB))
        have B9 := Lib.hid (below_on B8.out hB)
        have exn : U.length = on := TX9.out.recs.len
        have eun : U.length = un := TU.out.recs.len
        obtain rfl : un = on := by omega
        clear hM hT hB L8 TX8 B8 exn eun
        go_wp2_with fail
        refine (sameRecords_yes ua xa un uc xc U w9 TU.out.recs TX9.out.recs YF.out YL).mono ?_
        rintro e w10 ⟨rfl, hK⟩
        have B10 := Lib.hid (keep0_below B9.out hK B9.out.size)
        clear hK TX9 TU B9
        go_wp2_with fail
        refine (lives_yes w10).mono ?_
        rintro e w11 ⟨rfl, hB⟩
        have B11 := Lib.hid (below_on B10.out hB)
        clear hB
        go_wp2_with fail
        go_ret
        exact ⟨rfl, B11.out⟩
    · obtain ⟨p, hp⟩ : ∃ p, k = p + 1 := ⟨k - 1, by omega⟩
      subst hp
      obtain ⟨l, hl⟩ := H2.out.at (show p < n by omega)
      obtain ⟨g, off, rfl, hc⟩ := (H2.out.below B.out).get p l hl
      have HL := Lib.hid hl
      have ez : ((p + 1 : Nat) : Int) - 1 = (p : Int) := by omega
      rw [ez]
      have ed := drop_at hl
      have el : l.cs.length = l.n := (H2.out.recs l (List.mem_of_getElem? hl)).1.len
      have hon3 : l.n + on = lens (ls.drop p) := by rw [ed, lens_cons, el, ← hon]
      have hln : l.n ≤ 300 := by
        have h1 := lens_sub (List.drop_sublist p ls)
        have h2 := SM.out.recs
        have h3 := wts_len (ls.map Lg.cs).flatten
        unfold wtl at h2
        unfold lens at h1 hon3
        omega
      have ED := Lib.hid ed
      have HON := Lib.hid hon3
      have q1 : (0 : Int) ≤ (p : Int) := by omega
      have q2 : (p : Int) < (n : Int) := by omega
      obtain ⟨vs, hvs⟩ : ∃ vs, vs = (ls.drop (p + 1)).reverse.map Lg.val := ⟨_, rfl⟩
      have RV : Hid (wr.ownsRow w2.heap.size 25 1 (.slice ba bn bc) bn vs) := by rw [Hid, hvs]; exact R.out
      have HVS := Lib.hid hvs
      clear hl ed el hon3 hon ez hvs
      obtain ⟨la, ln, lc, lcs⟩ := l
      simp only at hc hln
      go_wp2_with (at_builtin; refine wpList_append_src rfl _ _ 22 rfl w2.heap.size 25 i0 (.slice none 0 0) 1 24 Try.underlying22 hi0 hz0 hz1 hz2 rfl (by decide) (.slice ba bn bc) bn vs rfl ?_ (some ⟨wr.heap.size, 0, none⟩) 1 1 [.slice la ln lc] rfl ?_ (by unfold maxLen; omega) (by omega) ?_ ?_)
      · exact RV.out.alloc _
      · exact src_new wr 25 1 [.slice la ln lc] rfl (by simp [Value.oneCell'])
      · have := B.out.size; simp; omega
      intro v' w3 hown hgrow hne
      obtain ⟨ba', bc', rfl⟩ := owns_shape hown
      clear hne
      have K1 : Keep (fun b => (Value.slice ba bn bc).ownBlock = some b) wr w3 := ((Keep.refl _ wr).alloc _).grown hgrow (fun j hj => .inl hj)
      have B3 : Hid (Below w2.heap.size w2 w3) := B.out.trans (K1.below B.out.size (fun b hb' e => by have := (R.out.lt b e).1; omega))
      have R3 : Hid (w3.ownsRow w2.heap.size 25 1 (.slice ba' (bn + 1) bc') (bn + 1) ((ls.drop p).reverse.map Lg.val)) := by
        have e : (ls.drop p).reverse.map Lg.val = vs ++ [.slice la ln lc] := by
          rw [HVS.out, ED.out]; simp [Lg.val]
        rw [Hid, e]
        exact hown
      have hc3 : w3.cell? ⟨g, off + p, none⟩ = some (.slice la ln lc) := by
        obtain ⟨g', off', e', hc'⟩ := (H2.out.below B3.out).get p _ HL.out
        simp only [Option.some.injEq, Addr.mk.injEq, and_true] at e'
        obtain ⟨rfl, rfl⟩ := e'
        exact hc'
      clear hown hgrow K1 hc R B
      go_wp2_with fail
      go_roundw
      case rel => exact ⟨p, ln + on, bn + 1, bc', ba', (p : Int) - 1, by omega, rfl, HON.out, (by first | rfl | go_num), rfl, (by first | rfl | go_num), R3.out, B3.out⟩
      case measure => simp [intOf] <;> omega

end Go.Proofs.Ythgkhhgabpebmaa
