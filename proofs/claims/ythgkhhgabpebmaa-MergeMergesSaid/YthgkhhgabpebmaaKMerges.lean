/- The walk of 'MergeMerges'. -/
import Derived.Test.YthgkhhgabpebmaaMerges
namespace Go.Proofs.Ythgkhhgabpebmaa
open Go.RowKit
set_option linter.unusedVariables false
set_option linter.unusedSimpArgs false

/-- Whether they rise. -/
def RisIs (b : Bool) (cs : List RC) : Prop := b = true ↔ Rising cs

theorem rises_is (a : Option Addr) (n cap : Nat) (cs : List RC) (w : World) (h : Recs w a n cs) (hn : n ≤ 9223372036854775800) (b : Bool) (hb : RisIs b cs) :
    Calls Try.prog 12 #[.slice a n cap] w fun e w' => e = .returned (.bool b) ∧ Keep (fun _ => False) w w' := rises_fix a n cap cs w h hn b hb

theorem refRises_is (a : Option Addr) (n cap : Nat) (cs : List RC) (w : World) (h : Recs w a n cs) (hn : n ≤ 9223372036854775800) (b : Bool) (hb : RisIs b cs) :
    Calls Try.prog 23 #[.slice a n cap] w fun e w' => e = .returned (.bool b) ∧ Keep (fun _ => False) w w' := refRises_fix a n cap cs w h hn b hb

set_option maxHeartbeats 4000000 in
set_option maxRecDepth 1000000 in
theorem mergeMerges_walk (a : Option Addr) (n cap : Nat) (at0 : Int) (ls : List Lg) (w : World) (h : Logs w a n ls) (hf : ∀ l ∈ ls, ∀ c ∈ l.cs, c.fit) (hcap : n ≤ cap) (hn : cap ≤ 9223372036854775807) (hnil : a = none → cap = 0) :
    Calls Try.prog 5 #[.slice a n cap, .int .u64 at0] w (LawPost w) := by
  obtain ⟨i0, hi0, hz0, hz1, hz2⟩ := info_parts info25
  have H := Lib.hid h
  have HF := Lib.hid hf
  clear h hf hnil
  go_enter Try.func5, Try.ntmps5
  go_wp2_with fail
  refine (small_any a n cap ls w H.out HF.out (by omega)).mono ?_
  rintro e w1 ⟨b, rfl, hb, d, rfl⟩
  have H1 : Hid (Logs (w.drewN d) a n ls) := H.out.below (below_drewN (Below.refl _ _) d)
  have B1 : Hid (Below w.heap.size w (w.drewN d)) := below_drewN (Below.refl _ _) d
  generalize w.drewN d = w1 at H1 B1 ⊢
  rcases b with _ | _
  · clear hb
    go_wp2_with fail
    refine (lives_yes w1).mono ?_
    rintro e w9 ⟨rfl, hB⟩
    have B9 := Lib.hid (below_on B1.out hB)
    clear hB
    go_wp2_with fail
    go_ret
    exact ⟨rfl, B9.out⟩
  have SM := Lib.hid (hb rfl)
  have FW := Lib.hid (hb rfl).few
  have h40 : n ≤ 40 := by rw [← H.out.len]; exact SM.out.logs
  have S300 : Hid (∀ l ∈ ls, l.n ≤ 300) := fun l hl => by
    have h1 := SM.out.recs
    have h2 := wts_len (ls.map Lg.cs).flatten
    have h3 := (H.out.recs l hl).1.len
    have h4 : l.cs.length ≤ (ls.map Lg.cs).flatten.length := by
      have := (sub_flat ((List.singleton_sublist.2 (List.mem_map_of_mem (f := Lg.cs) hl)))).length_le
      simpa using this
    unfold wtl at h1
    omega
  have S1000 : Hid ((ls.map Lg.cs).flatten.length ≤ 300) := by
    have h1 := SM.out.recs
    have h2 := wts_len (ls.map Lg.cs).flatten
    unfold wtl at h1
    rw [Hid]
    omega
  clear hb H
  go_wp2_with fail
  go_loopw [5, 6] (fun mv iv wr => ∃ (k : Nat) (ma : Option Addr) (mc : Nat) (ms : List Lg), k ≤ n ∧ iv = .int .i64 k ∧ mv = .slice ma k mc ∧ Hid (Mines w1 wr ma k mc ms ls) ∧ Hid (Below w1.heap.size w1 wr)) (fun _ iv _ => n - (intOf iv).toNat)
  case atStart => exact ⟨0, none, 0, [], Nat.zero_le _, rfl, rfl, Lib.hid ⟨World.ownsRow_nil _ _ _ _, fun m hm => by simp at hm, by simp, rfl⟩, Lib.hid (Below.refl _ _)⟩
  case round =>
    obtain ⟨k, ma, mc, ms, hk, rfl, rfl, M, B⟩ := hrel
    rcases (by omega : k < n ∨ n ≤ k) with hlt | hge
    · obtain ⟨l, hl⟩ := H1.out.at hlt
      obtain ⟨g, off, rfl, hc⟩ := (H1.out.below B.out).get k l hl
      have HL := Lib.hid hl
      have LM : Hid (l ∈ ls) := List.mem_of_getElem? hl
      have RW1 : Hid (Recs w1 l.a l.n l.cs) := (H1.out.recs l LM.out).1
      have NI : Hid (l.a = none → l.c = 0) := H1.out.nils l LM.out
      have FEW : Hid (∀ c ∈ l.cs, c.few) := FW.out.each l LM.out
      have hln : l.n ≤ 300 := S300.out l LM.out
      have q1 : (k : Int) < (n : Int) := by omega
      clear hl
      obtain ⟨la, ln, lc, lcs⟩ := l
      simp only at hc hln RW1 FEW NI
      go_wp2_with fail
      refine (lawCopied_at w1 la ln lc lcs wr RW1.out B.out NI.out (by omega)).mono ?_
      rintro e w3 ⟨oa, oc, xs, rfl, hL, hk3⟩
      have M3 := Lib.hid (M.out.keep0 hk3)
      have B3 := Lib.hid (keep0_below B.out hk3 B.out.size)
      have L3 := Lib.hid (hL.base B.out.size)
      obtain ⟨vs, hvs⟩ : ∃ vs, vs = ms.map Lg.val := ⟨_, rfl⟩
      have HVS := Lib.hid hvs
      have MR : Hid (w3.ownsRow w1.heap.size 25 1 (.slice ma k mc) k vs) := by rw [Hid, hvs]; exact M3.out.row
      clear hL hk3 hc M B hvs
      go_wp2_with (at_builtin; refine wpList_append_src rfl _ _ 22 rfl w1.heap.size 25 i0 (.slice none 0 0) 1 24 Try.underlying22 hi0 hz0 hz1 hz2 rfl (by decide) (.slice ma k mc) k vs rfl ?_ (some ⟨w3.heap.size, 0, none⟩) 1 1 [.slice oa ln oc] rfl ?_ (by unfold maxLen; omega) (by omega) ?_ ?_)
      · exact MR.out.alloc _
      · exact src_new w3 25 1 [.slice oa ln oc] rfl (by simp [Value.oneCell'])
      · have := B3.out.size; simp; omega
      intro v' w4 hown hgrow hne
      obtain ⟨m4, c4, rfl⟩ := owns_shape hown
      clear hne
      have K4 : Keep (fun b => (Value.slice ma k mc).ownBlock = some b) w3 w4 := ((Keep.refl _ w3).alloc _).grown hgrow (fun j hj => .inl hj)
      have B4 : Hid (Below w1.heap.size w1 w4) := B3.out.trans (K4.below B3.out.size (fun b hb' e => by have := (MR.out.lt b e).1; omega))
      have M4 : Hid (Mines w1 w4 m4 (k + 1) c4 (ms ++ [⟨oa, ln, oc, lcs⟩]) ls) := M3.out.snoc (m := ⟨oa, ln, oc, lcs⟩) L3.out HL.out rfl K4 (by
        have e : (ms ++ [(⟨oa, ln, oc, lcs⟩ : Lg)]).map Lg.val = vs ++ [.slice oa ln oc] := by rw [HVS.out]; simp [Lg.val]
        rw [e]
        exact hown)
      have HML : Hid (ms.length = k) := M3.out.len
      clear hown hgrow K4 MR M3 B3 L3
      have G4 : Hid ((ms ++ [(⟨oa, ln, oc, lcs⟩ : Lg)])[k]? = some ⟨oa, ln, oc, lcs⟩) := by
        rw [Hid, List.getElem?_append_right (by rw [HML.out]; exact Nat.le_refl _), HML.out]; simp
      have LG4 := Lib.hid (M4.out.logs B4.out)
      obtain ⟨mg, mo, hma, hcm⟩ := LG4.out.get k _ G4.out
      obtain ⟨g', off', e', hcl⟩ := (H1.out.below B4.out).get k _ HL.out
      simp only [Option.some.injEq, Addr.mk.injEq, and_true] at e'
      obtain ⟨rfl, rfl⟩ := e'
      subst hma
      have RM : Hid (Recs w4 oa ln lcs) := (LG4.out.recs _ (List.mem_of_getElem? G4.out)).1
      have RL : Hid (Recs w4 la ln lcs) := RW1.out.below B4.out
      have FEY : Hid (∀ d ∈ fromOf at0 lcs, d.few) := fun d hd => FEW.out d (List.mem_filter.1 hd).1
      have hFL : (fromOf at0 lcs).length ≤ ln := by
        have h1 : (fromOf at0 lcs).length ≤ lcs.length := List.length_filter_le _ _
        have := RL.out.len
        omega
      have HFL := Lib.hid hFL
      obtain ⟨bb, hbb⟩ : ∃ bb : Bool, bb = true ↔ Rising lcs := by
        by_cases hr : Rising lcs
        · exact ⟨true, by simp [hr]⟩
        · exact ⟨false, by simp [hr]⟩
      have HBB : RisIs bb lcs := hbb
      have q2 : (k : Int) < ((k + 1 : Nat) : Int) := by omega
      have q3 : (k : Int) < (k : Int) + 1 := by omega
      clear hFL hbb
      go_upto_region 8 with fail
      go_cut [56] (fun bv wx => bv = .bool false ∧ Keep (fun _ => False) w4 wx)
      case first =>
        rcases bb with _ | _
        all_goals
          go_region_held3 (fun w' => w'.cell? ⟨mg, mo + k, none⟩ = some (.slice oa ln oc) ∧ w'.cell? ⟨g, off + k, none⟩ = some (.slice la ln lc))
            (first
              | go_keep
              | (go_split_ands
                 refine ⟨?_, ?_⟩
                 all_goals (first | (refine Keep.got k5 ?_ (fun h => h); assumption) | (refine Keep.got (below_keep hB4) ?_ (fun h => h); assumption) | (refine Keep.got (below_keep hB3) ?_ (fun h => h); assumption) | (refine Keep.got k2 ?_ (fun h => h); assumption) | (refine Keep.got k1 ?_ (fun h => h); assumption))))
            (first
              | (go_at_call 12
                 have o1 : ln ≤ 9223372036854775800 := by omega
                 have h1 := RM.out.keep (Keep.refl (fun _ => False) w4).drew
                 refine (rises_is oa ln oc lcs _ h1 o1 _ HBB).mono ?_
                 rintro e u1 ⟨rfl, k1⟩
                 have K1 : Keep (fun _ => False) w4 u1 := (Keep.refl (fun _ => False) w4).drew.none_trans k1)
              | (go_at_call 23
                 have o1 : ln ≤ 9223372036854775800 := by omega
                 have h1 := RL.out.keep K1
                 refine (refRises_is la ln lc lcs _ h1 o1 _ HBB).mono ?_
                 rintro e u2 ⟨rfl, k2⟩
                 have K12 : Keep (fun _ => False) w4 u2 := K1.none_trans k2)
              | (go_at_call 24
                 first
                   | refine (from_any oa ln oc lcs at0 _ (RM.out.keep K4) FEW.out (by omega)).mono ?_
                   | refine (from_any oa ln oc lcs at0 _ (RM.out.keep K12) FEW.out (by omega)).mono ?_
                 rintro e u3 ⟨fa, fn, fc, fq, rfl, hT, hB3⟩
                 first
                   | (have K34 : Keep (fun _ => False) w4 u3 := K4.none_trans (below_keep hB3)
                      have HR1 := hT.recs
                      have HR2 := (hL4.recs hB4).keep (below_keep hB3)
                      have e1 := HR1.len
                      have e2 := HR2.len
                      obtain rfl : fn = rn := by omega)
                   | have K3 : Keep (fun _ => False) w4 u3 := K12.none_trans (below_keep hB3))
              | (go_at_call 25
                 first
                   | refine (refFrom_any la ln lc lcs at0 _ (RL.out.keep K3) (by omega)).mono ?_
                   | refine (refFrom_any la ln lc lcs at0 _ (RL.out.keep K12) (by omega)).mono ?_
                 rintro e u4 ⟨ra, rn, rc, rq, rfl, hL4, hB4⟩
                 first
                   | (have K34 : Keep (fun _ => False) w4 u4 := K3.none_trans (below_keep hB4)
                      have HR1 := hT.recs.keep (below_keep hB4)
                      have HR2 := hL4.recs hB4
                      have e1 := HR1.len
                      have e2 := HR2.len
                      obtain rfl : fn = rn := by omega)
                   | have K4 : Keep (fun _ => False) w4 u4 := K12.none_trans (below_keep hB4))
              | (go_at_call 11
                 refine (sameRecords_yes fa ra fn fc rc (fromOf at0 lcs) _ HR1 HR2 FEY.out (by have := HFL.out; omega)).mono ?_
                 rintro e u5 ⟨rfl, k5⟩
                 have K5 : Keep (fun _ => False) w4 u5 := K34.none_trans k5))
          go_wp2_with fail
          go_meet
          exact ⟨rfl, K5⟩
      case rest =>
        obtain ⟨rfl, hK⟩ := hcut
        have M5 := Lib.hid (M4.out.keep0 hK)
        have B5 := Lib.hid (keep0_below B4.out hK B4.out.size)
        clear hK hcm hcl M4 B4 RM RL LG4
        go_wp2_with fail
        go_roundw
        case rel => exact ⟨k + 1, _, c4, _, by omega, by go_num, rfl, M5, B5⟩
        case measure => simp [intOf]; omega
    · obtain rfl : k = n := by omega
      have ECS : Hid (ms.map Lg.cs = ls.map Lg.cs) := by
        have := M.out.cs
        rwa [List.take_of_length_le (by rw [H1.out.len]; exact Nat.le_refl _)] at this
      have FM := Lib.hid (FW.out.same ECS.out)
      have LM := Lib.hid (M.out.logs B.out)
      have LW := Lib.hid (H1.out.below B.out)
      go_wp2_with fail
      refine (merge_any ma k mc ms wr LM.out FM.out).mono ?_
      rintro e w3 ⟨r, xa, xn, xc, X, xs, rfl, hM, hT, hB⟩
      have MX : Hid (Merged (ls.map Lg.cs) r X) := by rw [← ECS.out]; exact hM
      have TX := Lib.hid hT
      have B3 := Lib.hid (below_on B.out hB)
      have M3 := Lib.hid (M.out.keep0 (below_keep hB))
      have LW3 := Lib.hid (LW.out.below hB)
      clear hM hT hB M B LM LW
      go_wp2_with fail
      refine (refMerge_any a k cap ls w3 LW3.out FW.out (by have h1 : (ls.map Lg.cs).flatten.length ≤ 300 := S1000.out; omega)).mono ?_
      rintro e w4 ⟨r', ya, yn, yc, Y, ys, rfl, hM, hL, hB⟩
      obtain ⟨rfl, rfl⟩ := hM.unique MX.out (List.Perm.refl _)
      have RY : Hid (Recs w4 ya yn Y) := hL.recs hB
      have TX4 := Lib.hid (TX.out.none (below_keep hB))
      have B4 := Lib.hid (below_on B3.out hB)
      have M4 := Lib.hid (M3.out.keep0 (below_keep hB))
      have LW4 := Lib.hid (LW3.out.below hB)
      have FY : Hid (∀ d ∈ Y, d.few) := fun d hd => FW.out.in (hM.mem.1 d hd)
      have exn : Y.length = xn := TX4.out.recs.len
      have eyn : Y.length = yn := RY.out.len
      obtain rfl : xn = yn := by omega
      have hxn : xn ≤ 300 := by
        have h1 := hM.mem.2
        have h2 : (ls.map Lg.cs).flatten.length ≤ 300 := S1000.out
        omega
      clear hM hL hB TX B3 M3 LW3 exn eyn
      go_wp2_with fail
      refine (sameRecords_yes xa ya xn xc yc Y w4 TX4.out.recs RY.out FY.out (by omega)).mono ?_
      rintro e w5 ⟨rfl, hK⟩
      have B5 := Lib.hid (keep0_below B4.out hK B4.out.size)
      have M5 := Lib.hid (M4.out.keep0 hK)
      clear hK TX4 RY B4 M4 LW4
      go_wp2_with fail
      go_loopw [11] (fun iv wr => ∃ (i : Nat), i ≤ k ∧ iv = .int .i64 i ∧ Hid (Mines w1 wr ma k mc ms ls) ∧ Hid (Below w1.heap.size w1 wr)) (fun iv _ => k - (intOf iv).toNat)
      case atStart => exact ⟨0, Nat.zero_le _, rfl, M5, B5⟩
      case round =>
        obtain ⟨i, hi, rfl, M, B⟩ := hrel
        clear M5 B5
        rcases (by omega : i < k ∨ k ≤ i) with hlt | hge2
        · obtain ⟨l, hl⟩ := H1.out.at hlt
          obtain ⟨g, off, rfl, hcl⟩ := (H1.out.below B.out).get i l hl
          have LM := Lib.hid (M.out.logs B.out)
          obtain ⟨m, hm⟩ := LM.out.at hlt
          obtain ⟨mg, mo, rfl, hcm⟩ := LM.out.get i m hm
          have ecs : m.cs = l.cs := by
            have h1 := congrArg (fun z => z[i]?) ECS.out
            simpa [hl, hm] using h1
          have RL : Hid (Recs wr l.a l.n l.cs) := ((H1.out.below B.out).recs l (List.mem_of_getElem? hl)).1
          have RM : Hid (Recs wr m.a m.n l.cs) := by rw [← ecs]; exact (LM.out.recs m (List.mem_of_getElem? hm)).1
          have FEW : Hid (∀ c ∈ l.cs, c.few) := FW.out.each l (List.mem_of_getElem? hl)
          have hln : l.n ≤ 300 := S300.out l (List.mem_of_getElem? hl)
          have q1 : (i : Int) < (k : Int) := by omega
          obtain ⟨la, ln, lc, lcs⟩ := l
          obtain ⟨na, nn, nc, ncs⟩ := m
          simp only at hcl hcm RL RM FEW hln
          obtain rfl : nn = ln := by have h1 := RL.out.len; have h2 := RM.out.len; omega
          clear hl hm ecs LM
          go_upto_region 17 with fail
          go_cut [91] (fun bv wx => bv = .bool false ∧ Keep (fun _ => False) wr wx)
          case first =>
            go_region_held3 (fun w' => w'.cell? ⟨mg, mo + i, none⟩ = some (.slice na nn nc) ∧ w'.cell? ⟨g, off + i, none⟩ = some (.slice la nn lc))
              (first
                | go_keep
                | (go_split_ands
                   refine ⟨?_, ?_⟩
                   all_goals (refine Keep.got k5 ?_ (fun h => h); assumption)))
              (first
                | (go_at_call 11
                   refine (sameRecords_yes na la nn nc lc lcs _ (RM.out.keep (Keep.refl (fun _ => False) wr).drew) (RL.out.keep (Keep.refl (fun _ => False) wr).drew) FEW.out (by omega)).mono ?_
                   rintro e u5 ⟨rfl, k5⟩))
            all_goals
              go_wp2_with fail
              go_meet
              exact ⟨rfl, (Keep.refl (fun _ => False) wr).drew.none_trans k5⟩
          case rest =>
            obtain ⟨rfl, hK⟩ := hcut
            have M6 := Lib.hid (M.out.keep0 hK)
            have B6 := Lib.hid (keep0_below B.out hK B.out.size)
            clear hK hcm hcl RM RL
            go_wp2_with fail
            go_roundw
            case rel => exact ⟨i + 1, by omega, by go_num, M6, B6⟩
            case measure => simp [intOf]; omega
        · have q1 : ¬ (i : Int) < (k : Int) := by omega
          go_wp2_with fail
          refine (lives_yes _).mono ?_
          rintro e w9 ⟨rfl, hB⟩
          have B9 := Lib.hid (below_on (below_on B1.out B.out) hB)
          clear hB
          go_wp2_with fail
          go_ret
          exact ⟨rfl, B9.out⟩

end Go.Proofs.Ythgkhhgabpebmaa
