/- The walk of 'MergeOwn'. -/
import Derived.Test.YthgkhhgabpebmaaAll
import Derived.Test.YthgkhhgabpebmaaTurned
import Derived.Deep.RegionHeld3
namespace Go.Proofs.Ythgkhhgabpebmaa
open Go.RowKit
set_option linter.unusedVariables false
set_option linter.unusedSimpArgs false

theorem from_zero {cs : List RC} (h : ∀ c ∈ cs, 0 ≤ c.lsn) : fromOf 0 cs = cs := List.filter_eq_self.2 (fun c hc => by simp [h c hc])

theorem Merged.mem {ls : List (List RC)} {r : Int} {X : List RC} (h : Merged ls r X) : (∀ d ∈ X, d ∈ ls.flatten) ∧ X.length ≤ ls.flatten.length := by
  by_cases h0 : r = 0
  · subst h0
    exact ⟨fun d hd => h.zero.2.1.subset hd, Nat.le_of_eq h.zero.2.1.length_eq⟩
  · rw [h.err h0]
    exact ⟨fun d hd => by simp at hd, Nat.zero_le _⟩

theorem Few.in {ls : List Lg} (h : Few ls) {d : RC} (hd : d ∈ (ls.map Lg.cs).flatten) : d.few := by
  obtain ⟨l', hl', hc'⟩ := List.mem_flatten.1 hd
  obtain ⟨m, hm, rfl⟩ := List.mem_map.1 hl'
  exact h.each m hm d hc'

set_option maxHeartbeats 4000000 in
set_option maxRecDepth 1000000 in
theorem mergeOwn_walk (a : Option Addr) (n cap : Nat) (at0 : Int) (ls : List Lg) (w : World) (h : Logs w a n ls) (hf : ∀ l ∈ ls, ∀ c ∈ l.cs, c.fit ∧ 0 ≤ c.lsn) (hcap : n ≤ cap) (hn : cap ≤ 9223372036854775807) (hnil : a = none → cap = 0) :
    Calls Try.prog 7 #[.slice a n cap, .int .u64 at0] w (LawPost w) := by
  obtain ⟨i0, hi0, hz0, hz1, hz2⟩ := info_parts info59
  have H := Lib.hid h
  have HF : Hid (∀ l ∈ ls, ∀ c ∈ l.cs, c.fit) := fun l hl c hc => (hf l hl c hc).1
  have HP : Hid (∀ l ∈ ls, ∀ c ∈ l.cs, 0 ≤ c.lsn) := fun l hl c hc => (hf l hl c hc).2
  clear h hf hnil
  go_enter Try.func7, Try.ntmps7
  go_wp2_with fail
  refine (small_any a n cap ls w H.out HF.out (by omega)).mono ?_
  rintro e w1 ⟨b, rfl, hb, d, rfl⟩
  have H1 : Hid (Logs (w.drewN d) a n ls) := H.out.below (below_drewN (Below.refl _ _) d)
  have B1 : Hid (Below w.heap.size w (w.drewN d)) := below_drewN (Below.refl _ _) d
  generalize w.drewN d = w1 at H1 B1 ⊢
  rcases b with _ | _
  · clear hb
    go_wp2_with fail
    refine (lives_yes w1).mono ?_
    rintro e w9 ⟨rfl, hB⟩
    have B9 := Lib.hid (below_on B1.out hB)
    clear hB
    go_wp2_with fail
    go_ret
    exact ⟨rfl, B9.out⟩
  have SM := Lib.hid (hb rfl)
  have FW := Lib.hid (hb rfl).few
  have h40 : n ≤ 40 := by rw [← H.out.len]; exact SM.out.logs
  have S300 : Hid (∀ l ∈ ls, l.n ≤ 300) := fun l hl => by
    have h1 := SM.out.recs
    have h2 := wts_len (ls.map Lg.cs).flatten
    have h3 := (H.out.recs l hl).1.len
    have h4 : l.cs.length ≤ (ls.map Lg.cs).flatten.length := by
      have := (sub_flat ((List.singleton_sublist.2 (List.mem_map_of_mem (f := Lg.cs) hl)))).length_le
      simpa using this
    unfold wtl at h1
    omega
  clear hb H
  go_wp2_with fail
  go_loopw [5, 6] (fun av iv wr => ∃ (k : Nat) (aa : Option Addr) (an ac : Nat) (xs : List Rq), k ≤ n ∧ iv = .int .i64 k ∧ av = .slice aa an ac ∧ an ≤ 1000 * k ∧ Hid (All wr w1.heap.size aa an ac xs) ∧ Hid (Below w1.heap.size w1 wr)) (fun _ iv _ => n - (intOf iv).toNat)
  case atStart => exact ⟨0, none, 0, 0, [], Nat.zero_le _, rfl, rfl, by omega, Lib.hid (All.nil _ _), Lib.hid (Below.refl _ _)⟩
  case round =>
    obtain ⟨k, aa, an, ac, xs, hk, rfl, rfl, han, A, B⟩ := hrel
    rcases (by omega : k < n ∨ n ≤ k) with hlt | hge
    · obtain ⟨l, hl⟩ := H1.out.at hlt
      obtain ⟨g, off, rfl, hc⟩ := (H1.out.below B.out).get k l hl
      have HL := Lib.hid hl
      have LM : Hid (l ∈ ls) := List.mem_of_getElem? hl
      have RW : Hid (Recs wr l.a l.n l.cs) := ((H1.out.below B.out).recs l LM.out).1
      have FEW : Hid (∀ c ∈ l.cs, c.few) := FW.out.each l LM.out
      have hln : l.n ≤ 300 := S300.out l LM.out
      have PZ : Hid (fromOf 0 l.cs = l.cs) := from_zero (HP.out l LM.out)
      have q1 : (k : Int) < (n : Int) := by omega
      clear hl
      obtain ⟨la, ln, lc, lcs⟩ := l
      simp only at hc hln RW FEW PZ
      go_upto_region 7 with fail
      go_cut [7, 8] (fun xv yv wx => ∃ (xa : Option Addr) (xn xc : Nat) (xq : List Rq) (ya : Option Addr) (yn yc : Nat) (yq : List Rq), xv = .slice xa xn xc ∧ yv = .slice ya yn yc ∧ Told wx wr.heap.size xa xn xc (fromOf 0 lcs) xq ∧ Told wx wr.heap.size ya yn yc (fromOf at0 lcs) yq ∧ Below wr.heap.size wr wx)
      case first =>
        go_region_held3 (fun w' => w'.cell? ⟨g, off + k, none⟩ = some (.slice la ln lc))
          (first
            | go_keep
            | (exact (below_keep hB1).got (by assumption) (fun h => h))
            | (exact (below_keep hB2).got (by assumption) (fun h => h)))
          (first
            | (go_at_call 24
               refine (from_any la ln lc lcs _ _ (RW.out.keep (Keep.refl (fun _ => False) wr).drew) FEW.out (by omega)).mono ?_
               rintro e w4 ⟨xa, xn, xc, xq, rfl, hT1, hB1⟩)
            | (go_at_call 24
               refine (from_any la ln lc lcs _ _ ((RW.out.keep (Keep.refl (fun _ => False) wr).drew).below hB1) FEW.out (by omega)).mono ?_
               rintro e w5 ⟨ya, yn, yc, yq, rfl, hT2, hB2⟩))
        all_goals
          go_wp2_with fail
          go_meet
          have hB0 : Below wr.heap.size wr w4 := ⟨hB1.os, hB1.tape, hB1.output, hB1.size, hB1.block⟩
          first
            | exact ⟨xa, xn, xc, xq, ya, yn, yc, yq, rfl, rfl, (hT1.none (below_keep hB2)), hT2.base hB1.size, below_on hB0 hB2⟩
            | exact ⟨ya, yn, yc, yq, xa, xn, xc, xq, rfl, rfl, hT2.base hB1.size, (hT1.none (below_keep hB2)), below_on hB0 hB2⟩
      case rest =>
        obtain ⟨xa, xn, xc, xq, ya, yn, yc, yq, rfl, rfl, hTx, hTy, hB2⟩ := hcut
        have hB5 := Lib.hid hB2
        have TX := Lib.hid hTx
        have TY := Lib.hid hTy
        clear hTx hTy hB2
        have B5 := Lib.hid (below_on B.out hB5.out)
        have A5 := Lib.hid (A.out.keep0 (below_keep hB5.out))
        have RW5 := Lib.hid (RW.out.below hB5.out)
        rw [PZ.out] at TX
        have exn : xn = ln := by have h1 := TX.out.recs.len; have h2 := RW5.out.len; omega
        subst exn
        have hyn : yn ≤ xn := by
          have h1 := TY.out.recs.len
          have h2 := RW5.out.len
          have h3 : (fromOf at0 lcs).length ≤ lcs.length := List.length_filter_le _ _
          omega
        have hc5 : wc.cell? ⟨g, off + k, none⟩ = some (.slice la xn lc) := (below_keep hB5.out).got hc (fun h => h)
        have FEY : Hid (∀ d ∈ fromOf at0 lcs, d.few) := fun d hd => FEW.out d (List.mem_filter.1 hd).1
        clear hc
        go_wp2_with fail
        refine (chain_any la xn lc lcs at0 wc RW5.out FEW.out (by omega)).mono ?_
        rintro e w6 ⟨r, za, zn, zc, Z, zq, rfl, hT, hB, hZ1, hZ2, _, _⟩
        have hzn : zn ≤ xn := by
          have h1 := hT.recs.len
          have h2 := RW5.out.len
          omega
        have FEZ : Hid (∀ d ∈ Z, d.few) := fun d hd => FEW.out d (hZ1 d hd)
        have TZ6 := Lib.hid hT
        have B56 := Lib.hid hB
        have TX6 := Lib.hid (TX.out.none (below_keep hB))
        have TY6 := Lib.hid (TY.out.none (below_keep hB))
        have A6 := Lib.hid (A5.out.keep0 (below_keep hB))
        have B6 := Lib.hid (below_on B5.out hB)
        have RW6 := Lib.hid (RW5.out.below hB)
        have hc6 : w6.cell? ⟨g, off + k, none⟩ = some (.slice la xn lc) := (below_keep hB).got hc5 (fun h => h)
        clear hT hB hZ1 hZ2 hc5
        go_wp2_with fail
        refine (sameRecords_yes xa la xn xc lc lcs w6 TX6.out.recs RW6.out FEW.out (by omega)).mono ?_
        rintro e w7 ⟨rfl, hK⟩
        have TX7 := Lib.hid (TX6.out.none hK)
        have TY7 := Lib.hid (TY6.out.none hK)
        have TZ7 := Lib.hid (TZ6.out.none hK)
        have A7 := Lib.hid (A6.out.keep0 hK)
        have B7 := Lib.hid (keep0_below B6.out hK B6.out.size)
        have SZ : Hid (w1.heap.size ≤ wr.heap.size ∧ wr.heap.size ≤ wc.heap.size ∧ wc.heap.size ≤ w7.heap.size) := ⟨B.out.size, hB5.out.size, Nat.le_trans B56.out.size hK.size⟩
        clear hK TX6 TY6 TZ6 A6 B6 RW6 hc6
        go_wp2_with (at_builtin; refine wpList_append_put rfl _ _ 25 rfl w1.heap.size 59 i0 (.agg #[.int .i64 0, .int .u64 0, .int .i64 0, .int .u64 0, .int .u64 0, .int .i64 0, .int .i64 0, .string ByteArray.empty, .string ByteArray.empty, .string ByteArray.empty, .slice none 0 0, .slice none 0 0]) 12 152 Try.underlying25 hi0 hz0 hz1 hz2 rfl (by decide) (.slice aa an ac) (an) (allcells xs) rfl A7.out.row xa xn xc (allcells xq) rfl TX7.out.src (by unfold maxLen; omega) (by omega) B7.out.size ?_)
        intro v8 w8 hown hgrow hat
        obtain ⟨a8, c8, rfl⟩ := owns_shape hown
        have K8 : Keep (fun j => (Value.slice aa an ac).ownBlock = some j) w7 w8 := (Keep.refl _ w7).grown hgrow (fun j hj => .inl hj)
        have A8 := Lib.hid (A7.out.put TX7.out SZ.out.1 FEW.out K8 hown)
        have TY8 := Lib.hid (TY7.out.apart A7.out.row K8 (fun j hj e => by have h1 := (TY.out.row.lt j hj).1; have h2 := (A.out.row.lt j e).2; omega))
        have TZ8 := Lib.hid (TZ7.out.apart A7.out.row K8 (fun j hj e => by have h1 := (TZ7.out.row.lt j hj).1; have h2 := (A.out.row.lt j e).2; have := SZ.out.2.1; omega))
        have B8 := Lib.hid (B7.out.trans (K8.below B7.out.size (fun b hb e => by have := (A7.out.row.lt b e).1; omega)))
        have HAT := Lib.hid hat
        clear hown hgrow hat K8
        go_wp2_with (at_builtin; refine wpList_append_put rfl _ _ 25 rfl w1.heap.size 59 i0 (.agg #[.int .i64 0, .int .u64 0, .int .i64 0, .int .u64 0, .int .u64 0, .int .i64 0, .int .i64 0, .string ByteArray.empty, .string ByteArray.empty, .string ByteArray.empty, .slice none 0 0, .slice none 0 0]) 12 152 Try.underlying25 hi0 hz0 hz1 hz2 rfl (by decide) (.slice a8 (an + xn) c8) (an + xn) (allcells (xs ++ xq)) rfl A8.out.row ya yn yc (allcells yq) rfl TY8.out.src (by unfold maxLen; omega) (by omega) B8.out.size ?_)
        intro v9 w9 hown hgrow hat
        obtain ⟨a9, c9, rfl⟩ := owns_shape hown
        have K9 : Keep (fun j => (Value.slice a8 (an + xn) c8).ownBlock = some j) w8 w9 := (Keep.refl _ w8).grown hgrow (fun j hj => .inl hj)
        have A9 := Lib.hid (A8.out.put TY8.out SZ.out.1 FEY.out K9 (by rw [allcells_append]; rw [allcells_append] at hown; exact hown))
        have TZ9 := Lib.hid (TZ8.out.apart A8.out.row K9 (fun j hj e => by
          have h1 := TZ7.out.row.lt j hj
          rcases HAT.out j e with h2 | h2
          · have h3 := (A.out.row.lt j h2).2; have := SZ.out.2.1; omega
          · omega))
        have B9 := Lib.hid (B8.out.trans (K9.below B8.out.size (fun b hb e => by have := (A8.out.row.lt b e).1; omega)))
        clear hown hgrow hat K9 A8 TY8 TZ8 B8
        go_wp2_with (at_builtin; refine wpList_append_put rfl _ _ 25 rfl w1.heap.size 59 i0 (.agg #[.int .i64 0, .int .u64 0, .int .i64 0, .int .u64 0, .int .u64 0, .int .i64 0, .int .i64 0, .string ByteArray.empty, .string ByteArray.empty, .string ByteArray.empty, .slice none 0 0, .slice none 0 0]) 12 152 Try.underlying25 hi0 hz0 hz1 hz2 rfl (by decide) (.slice a9 (an + xn + yn) c9) (an + xn + yn) (allcells (xs ++ xq ++ yq)) rfl A9.out.row za zn zc (allcells zq) rfl TZ9.out.src (by unfold maxLen; omega) (by omega) B9.out.size ?_)
        intro v10 w10 hown hgrow hat
        obtain ⟨a10, c10, rfl⟩ := owns_shape hown
        have K10 : Keep (fun j => (Value.slice a9 (an + xn + yn) c9).ownBlock = some j) w9 w10 := (Keep.refl _ w9).grown hgrow (fun j hj => .inl hj)
        have A10 := Lib.hid (A9.out.put TZ9.out (Nat.le_trans SZ.out.1 SZ.out.2.1) FEZ.out K10 (by rw [List.append_assoc]; exact hown))
        have B10 := Lib.hid (B9.out.trans (K10.below B9.out.size (fun b hb e => by have := (A9.out.row.lt b e).1; omega)))
        clear hown hgrow hat K10 A9 TZ9 B9
        go_wp2_with fail
        go_roundw
        case rel => exact ⟨k + 1, a10, an + xn + yn + zn, c10, _, by omega, by go_num, rfl, by omega, A10, B10⟩
        case measure => simp [intOf]; omega
    · obtain rfl : k = n := by omega
      have LW := Lib.hid (H1.out.below B.out)
      go_wp2_with fail
      refine (merge_any a k cap ls wr LW.out FW.out).mono ?_
      rintro e w3 ⟨r, la, ln, lc, L, lq, rfl, hM, hT, hB⟩
      have ML := Lib.hid hM
      have TL := Lib.hid hT
      have FL : Hid (∀ d ∈ L, d.few) := fun d hd => FW.out.in (hM.mem.1 d hd)
      have hln : ln ≤ 300 := by
        have h1 := hM.mem.2
        have h2 := wts_len (ls.map Lg.cs).flatten
        have h3 := SM.out.recs
        have h4 := hT.recs.len
        unfold wtl at h3
        omega
      have A3 := Lib.hid (A.out.keep0 (below_keep hB))
      have B3 := Lib.hid (below_on B.out hB)
      have SZ : Hid (w1.heap.size ≤ wr.heap.size) := B.out.size
      clear hM hT hB LW A B
      go_wp2_with (at_builtin; refine wpList_append_put rfl _ _ 25 rfl w1.heap.size 59 i0 (.agg #[.int .i64 0, .int .u64 0, .int .i64 0, .int .u64 0, .int .u64 0, .int .i64 0, .int .i64 0, .string ByteArray.empty, .string ByteArray.empty, .string ByteArray.empty, .slice none 0 0, .slice none 0 0]) 12 152 Try.underlying25 hi0 hz0 hz1 hz2 rfl (by decide) (.slice aa an ac) (an) (allcells xs) rfl A3.out.row la ln lc (allcells lq) rfl TL.out.src (by unfold maxLen; omega) (by omega) B3.out.size ?_)
      intro v4 w4 hown hgrow hat
      obtain ⟨a4, c4, rfl⟩ := owns_shape hown
      have K4 : Keep (fun j => (Value.slice aa an ac).ownBlock = some j) w3 w4 := (Keep.refl _ w3).grown hgrow (fun j hj => .inl hj)
      have A4 := Lib.hid (A3.out.put TL.out SZ.out FL.out K4 hown)
      have B4 := Lib.hid (B3.out.trans (K4.below B3.out.size (fun b hb e => by have := (A3.out.row.lt b e).1; omega)))
      have HLN := Lib.hid TL.out.recs.len
      clear hown hgrow hat K4 A3 B3 TL FL SZ
      obtain ⟨N, hN⟩ : ∃ N, N = an + ln := ⟨_, rfl⟩
      rw [← hN] at A4
      have hN2 : N ≤ 41000 := by omega
      obtain ⟨ys, hys⟩ : ∃ ys, ys = xs ++ lq := ⟨_, rfl⟩
      rw [← hys] at A4
      rw [← hN]
      clear hys han hN
      go_wp2_with fail
      go_loopw [13] (fun iv wr => ∃ (j : Nat), j ≤ N ∧ iv = .int .i64 j ∧ Hid (Shape w1.heap.size w4 wr)) (fun iv _ => N - (intOf iv).toNat)
      case atStart => exact ⟨0, Nat.zero_le _, rfl, Lib.hid (Shape.refl _ _)⟩
      case round =>
        obtain ⟨j, hj, rfl, S⟩ := hrel
        rcases (by omega : j < N ∨ N ≤ j) with hlt | hge'
        · obtain ⟨x, hx⟩ : ∃ x, ys[j]? = some x := ⟨_, List.getElem?_eq_getElem (by rw [A4.out.len]; exact hlt)⟩
          have HX := Lib.hid hx
          have XM : Hid (x ∈ ys) := List.mem_of_getElem? hx
          have htl := (A4.out.mine x XM.out).tn
          have hdl := (A4.out.mine x XM.out).dn
          obtain ⟨g, off, rfl, _⟩ := A4.out.recs S.out hx
          have q1 : (j : Int) < (N : Int) := by omega
          clear hx
          go_wp2_with fail
          go_loopw [14] (fun iv wr => ∃ (i : Nat), i ≤ x.tl ∧ iv = .int .i64 i ∧ Hid (Shape w1.heap.size w4 wr)) (fun iv _ => x.tl - (intOf iv).toNat)
          case atStart => exact ⟨0, Nat.zero_le _, rfl, S⟩
          case round =>
            obtain ⟨i, hi, rfl, S2⟩ := hrel
            obtain ⟨g', off', e', hrc⟩ := A4.out.recs S2.out HX.out
            simp only [Option.some.injEq, Addr.mk.injEq, and_true] at e'
            obtain ⟨rfl, rfl⟩ := e'
            have x10 := hrc.c10
            have x11 := hrc.c11
            clear hrc
            rcases (by omega : i < x.tl ∨ x.tl ≤ i) with hlt2 | hge2
            · obtain ⟨g2, cur, hta, hb2, hg2, hsz⟩ := ((A4.out.mine x XM.out).shape (base0 := 0) S2.out).ts (by omega)
              obtain ⟨v0, d0, f0⟩ := cells_at hg2 (o := i * 3) (by omega)
              obtain ⟨v1, d1, f1⟩ := cells_at hg2 (o := i * 3 + 1) (by omega)
              obtain ⟨v2, d2, f2⟩ := cells_at hg2 (o := i * 3 + 2) (by omega)
              rw [hta] at x10
              have q2 : (i : Int) < (x.tl : Int) := by omega
              have HG := Lib.hid hg2
              have HBB := Lib.hid hb2
              clear hg2 hsz hta hb2
              go_wp2_with fail
              have S3 : Hid (Shape w1.heap.size w4 (((wr.setCell ⟨g2, i * 3, none⟩ (.int .i64 (-1))).setCell ⟨g2, i * 3 + 1, none⟩ (.int .i64 0)).setCell ⟨g2, i * 3 + 2, none⟩ (.int .u64 0))) := by
                obtain ⟨s1, cur1, e1, z1⟩ := S2.out.set HBB.out HG.out (.inl rfl) (i * 3) (.int .i64 (-1))
                obtain ⟨s2, cur2, e2, z2⟩ := s1.set HBB.out e1 (.inl rfl) (i * 3 + 1) (.int .i64 0)
                exact (s2.set HBB.out e2 (.inl rfl) (i * 3 + 2) (.int .u64 0)).1
              go_roundw
              case rel => exact ⟨i + 1, by omega, by go_num, S3⟩
              case measure => simp [intOf]; omega
            · have q2 : ¬ (i : Int) < (x.tl : Int) := by omega
              go_wp2_with fail
              go_loopw [15] (fun iv wr => ∃ (i : Nat), i ≤ x.dl ∧ iv = .int .i64 i ∧ Hid (Shape w1.heap.size w4 wr)) (fun iv _ => x.dl - (intOf iv).toNat)
              case atStart => exact ⟨0, Nat.zero_le _, rfl, S2⟩
              case round =>
                clear x10 x11
                obtain ⟨m, hm, rfl, S5⟩ := hrel
                obtain ⟨g', off', e', hrc⟩ := A4.out.recs S5.out HX.out
                simp only [Option.some.injEq, Addr.mk.injEq, and_true] at e'
                obtain ⟨rfl, rfl⟩ := e'
                have x11 := hrc.c11
                clear hrc
                rcases (by omega : m < x.dl ∨ x.dl ≤ m) with hlt3 | hge3
                · obtain ⟨g2, cur, hda, hb2, hg2, hsz⟩ := ((A4.out.mine x XM.out).shape (base0 := 0) S5.out).ds (by omega)
                  obtain ⟨v0, d0, f0⟩ := cells_at hg2 (o := m * 2) (by omega)
                  obtain ⟨v1, d1, f1⟩ := cells_at hg2 (o := m * 2 + 1) (by omega)
                  rw [hda] at x11
                  have q3 : (m : Int) < (x.dl : Int) := by omega
                  have HG := Lib.hid hg2
                  have HBB := Lib.hid hb2
                  clear hg2 hsz hda hb2
                  go_wp2_with fail
                  have S6 : Hid (Shape w1.heap.size w4 ((wr.setCell ⟨g2, m * 2, none⟩ (.int .i64 (-1))).setCell ⟨g2, m * 2 + 1, none⟩ (.int .u64 0))) := by
                    obtain ⟨s1, cur1, e1, z1⟩ := S5.out.set HBB.out HG.out (.inr rfl) (m * 2) (.int .i64 (-1))
                    exact (s1.set HBB.out e1 (.inr rfl) (m * 2 + 1) (.int .u64 0)).1
                  go_roundw
                  case rel => exact ⟨m + 1, by omega, by go_num, S6⟩
                  case measure => simp [intOf]; omega
                · have q3 : ¬ (m : Int) < (x.dl : Int) := by omega
                  go_wp2_with fail
                  go_roundw
                  case rel => exact ⟨j + 1, by omega, by go_num, S5⟩
                  case measure => simp [intOf]; omega
        · have q1 : ¬ (j : Int) < (N : Int) := by omega
          have B5 := Lib.hid (B4.out.trans S.out.below)
          have LW := Lib.hid (H1.out.below B5.out)
          clear A4 S B4
          go_wp2_with fail
          refine (merge_any a k cap ls wr LW.out FW.out).mono ?_
          rintro e w6 ⟨r', ma, mn, mc, M, mq, rfl, hM, hT, hB⟩
          obtain ⟨rfl, rfl⟩ := hM.unique ML.out (List.Perm.refl _)
          have T6 := Lib.hid hT
          have B6 := Lib.hid (below_on B5.out hB)
          have L6 := Lib.hid (LW.out.below hB)
          obtain rfl : mn = ln := by have h1 := hT.recs.len; have h2 := HLN.out; omega
          have MM : Hid (∀ d ∈ M, d ∈ (ls.map Lg.cs).flatten) := hM.mem.1
          clear hM hT hB LW B5
          go_wp2_with fail
          go_loopw [18] (fun iv wr => ∃ (i : Nat), i ≤ mn ∧ iv = .int .i64 i ∧ wr = w6) (fun iv _ => mn - (intOf iv).toNat)
          case atStart => exact ⟨0, Nat.zero_le _, rfl, rfl⟩
          case round =>
            obtain ⟨i, hi, rfl, rfl⟩ := hrel
            rcases (by omega : i < mn ∨ mn ≤ i) with hlt2 | hge2
            · obtain ⟨d, hd⟩ : ∃ d, M[i]? = some d := T6.out.recs.at hlt2
              obtain ⟨g, off, x, rfl, hx, hr⟩ := T6.out.recs.get i d hd
              have x10 := hx.c10
              have DM : Hid (d ∈ (ls.map Lg.cs).flatten) := MM.out d (List.mem_of_getElem? hd)
              have TS := Lib.hid hr.ts
              have htl : x.tl ≤ 1000 := by have := hr.len; have h2 := (FW.out.in DM.out).1; omega
              have q2 : (i : Int) < (mn : Int) := by omega
              clear hx hr hd
              go_wp2_with fail
              go_loopw [19] (fun iv wq => ∃ (m : Nat), m ≤ x.tl ∧ iv = .int .i64 m ∧ wq = wr) (fun iv _ => x.tl - (intOf iv).toNat)
              case atStart => exact ⟨0, Nat.zero_le _, rfl, rfl⟩
              case round =>
                obtain ⟨m, hm, rfl, rfl⟩ := hrel
                rcases (by omega : m < x.tl ∨ x.tl ≤ m) with hlt3 | hge3
                · obtain ⟨g2, off2, ⟨p1, p2, p3⟩, hta, hz, c0, c1, c2⟩ := TS.out.txn hlt3
                  have q3 : (m : Int) < (x.tl : Int) := by omega
                  have HZ := Lib.hid hz
                  rw [hta] at x10
                  simp only at c0
                  clear hz c1 c2
                  by_cases he : p1 = -1
                  · subst he
                    go_wp2_with fail
                    refine (given_any a k cap ls (-1) wr L6.out FW.out (by omega)).mono ?_
                    rintro e w7 ⟨b, rfl, hb, rfl⟩
                    obtain rfl : b = true := by
                      rcases b with _ | _
                      · obtain ⟨l', hl', hc'⟩ := List.mem_flatten.1 DM.out
                        obtain ⟨l, hlm, rfl⟩ := List.mem_map.1 hl'
                        exact absurd rfl (hb rfl l hlm d hc' _ (List.mem_of_getElem? HZ.out))
                      · rfl
                    clear hb
                    go_wp2_with fail
                    go_roundw
                    case rel => exact ⟨m + 1, by omega, by go_num, (by first | rfl | trivial)⟩
                    case measure => simp [intOf]; omega
                  · go_wp2_with fail
                    go_roundw
                    case rel => exact ⟨m + 1, by omega, by go_num, (by first | rfl | trivial)⟩
                    case measure => simp [intOf]; omega
                · have q3 : ¬ (m : Int) < (x.tl : Int) := by omega
                  go_wp2_with fail
                  go_roundw
                  case rel => exact ⟨i + 1, by omega, by go_num, (by first | rfl | trivial)⟩
                  case measure => simp [intOf]; omega
            · have q2 : ¬ (i : Int) < (mn : Int) := by omega
              go_wp2_with fail
              refine (lives_yes _).mono ?_
              rintro e w9 ⟨rfl, hB⟩
              have B9 := Lib.hid (below_on (below_on B1.out B6.out) hB)
              clear hB
              go_wp2_with fail
              go_ret
              exact ⟨rfl, B9.out⟩

end Go.Proofs.Ythgkhhgabpebmaa
