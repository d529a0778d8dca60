/- The document's 'Merge': each record put into its place. -/
import Derived.Test.YthgkhhgabpebmaaIns
import Derived.Test.YthgkhhgabpebmaaTurnP
import Derived.Deep.RegionHeld3
namespace Go.Proofs.Ythgkhhgabpebmaa
open Go.RowKit
set_option linter.unusedVariables false
set_option linter.unusedSimpArgs false

/-- What the document's 'Merge' leaves. -/
def RefMergePost (w : World) (ls : List Lg) (e : Ending) (w' : World) : Prop :=
  ∃ r a n c cs xs, e = .returned (.tuple #[.slice a n c, .int .i64 r]) ∧ Merged (ls.map Lg.cs) r cs ∧ Lent w w' w.heap.size a n c cs xs ∧ Below w.heap.size w w'

theorem Each.append {R : Rq → RC → Prop} {xs ys : List Rq} {cs ds : List RC} (h : Each R xs cs) (k : Each R ys ds) : Each R (xs ++ ys) (cs ++ ds) := by
  refine ⟨by simp [h.len, k.len], fun j x c hx hc => ?_⟩
  rw [List.getElem?_append] at hx hc
  rw [h.len] at hx
  split at hx
  · rename_i h1
    rw [if_pos h1] at hc
    exact h.get j x c hx hc
  · rename_i h1
    rw [if_neg h1] at hc
    exact k.get _ x c hx hc

theorem row_at {w : World} {base n c : Nat} {a : Option Addr} {xs : List Rq} (h : w.ownsRow base 59 12 (.slice a n c) n (allcells xs)) (hn : n ≠ 0) : ∃ g, a = some ⟨g, 0, none⟩ := by
  obtain ⟨g, cur, ha, _⟩ := owns_mine h hn
  exact ⟨g, ha⟩

theorem Lent.drewN {w0 w : World} {base : Nat} {a : Option Addr} {n c : Nat} {cs : List RC} {xs : List Rq} (h : Lent w0 w base a n c cs xs) (m : Nat) : Lent w0 (w.drewN m) base a n c cs xs :=
  h.keep (S := fun _ => False) ((Keep.refl _ _).drewN _) (fun _ _ h => h)

/-- The records of the first logs. -/
def flat (ls : List Lg) (k : Nat) : List RC := ((ls.take k).map Lg.cs).flatten

theorem flat_snoc {ls : List Lg} {k : Nat} {l : Lg} (h : ls[k]? = some l) : flat ls (k + 1) = flat ls k ++ l.cs := by
  unfold flat
  rw [take_snoc h]
  simp

/-- Two rows of records that don't meet. -/
def Apart2 (a b : Value) : Prop := ∀ j, a.ownBlock = some j → ¬ b.ownBlock = some j

/-- So far put in: they rise, and are the first ones. -/
structure Sorted (F : List RC) (i : Nat) (S : List RC) : Prop where
  rise : Rising S
  perm : S.Perm (F.take i)

theorem Sorted.len {F : List RC} {i : Nat} {S : List RC} (h : Sorted F i S) (hi : i ≤ F.length) : S.length = i := by
  rw [h.perm.length_eq, List.length_take]; omega

theorem Sorted.next {F : List RC} {i : Nat} {S : List RC} (h : Sorted F i S) {c : RC} (hc : F[i]? = some c) {k : Nat} (hk : k ≤ S.length) (hlo : ∀ p y, k = p + 1 → S[p]? = some y → y.lsn < c.lsn) (hhi : ∀ d ∈ S.drop k, c.lsn < d.lsn) : Sorted F (i + 1) (ins S k c) :=
  ⟨ins_rising h.rise hk hlo hhi, by
    rw [take_snoc hc]
    exact (ins_perm S k c).trans (h.perm.append_right _)⟩

theorem Sorted.twice {F : List RC} {i : Nat} {S : List RC} (h : Sorted F i S) {c d : RC} (hc : F[i]? = some c) (hd : d ∈ S) (he : d.lsn = c.lsn) : ¬ (F.map RC.lsn).Nodup := by
  intro hn
  have h1 : F = F.take i ++ c :: F.drop (i + 1) := by
    obtain ⟨h3, rfl⟩ := List.getElem?_eq_some_iff.1 hc
    rw [← List.drop_eq_getElem_cons h3, List.take_append_drop]
  rw [h1, List.map_append, List.nodup_append] at hn
  exact hn.2.2 _ (List.mem_map_of_mem (h.perm.subset hd)) _ (List.mem_map_of_mem (f := RC.lsn) List.mem_cons_self) he

set_option maxHeartbeats 4000000 in
set_option maxRecDepth 1000000 in
theorem refMerge_any (a : Option Addr) (n cap : Nat) (ls : List Lg) (w : World) (h : Logs w a n ls) (hf : Few ls) (hs : (ls.map Lg.cs).flatten.length ≤ 1000) :
    Calls Try.prog 26 #[.slice a n cap] w (RefMergePost w ls) := by
  obtain ⟨i0, hi0, hz0, hz1, hz2⟩ := info_parts info59
  have hi12 : (Try.prog.info? 59).map (·.size) = some 12 := by rw [hi0]; simp [hz1]
  have HI12 := Lib.hid hi12
  have H := Lib.hid h
  have F := Lib.hid hf
  have SS := Lib.hid hs
  have hn : n ≤ 1000 := by rw [← h.len]; exact hf.logs
  clear h hf hs hi12
  go_enter Try.func26, Try.ntmps26
  go_wp2_with fail
  go_loopw [4, 5] (fun av iv wr => ∃ (k : Nat) (aa : Option Addr) (an ac : Nat) (xs : List Rq), k ≤ n ∧ iv = .int .i64 k ∧ av = .slice aa an ac ∧ an ≤ 1000 ∧ Hid (Lent w wr w.heap.size aa an ac (flat ls k) xs) ∧ Hid (Below w.heap.size w wr) ∧ Hid (∀ l ∈ ls.take k, Rising l.cs)) (fun _ iv _ => n - (intOf iv).toNat)
  case atStart => exact ⟨0, none, 0, 0, [], Nat.zero_le _, rfl, rfl, by omega, Lib.hid (Lent.nil _ _ _), Lib.hid (Below.refl _ _), Lib.hid (fun l hl => by simp at hl)⟩
  case round =>
    obtain ⟨k, aa, an, ac, xs, hk, rfl, rfl, han, A, B, R⟩ := hrel
    rcases (by omega : k < n ∨ n ≤ k) with hlt | hge
    · obtain ⟨l, hl⟩ := H.out.at hlt
      obtain ⟨g, off, rfl, hc⟩ := (H.out.below B.out).get k l hl
      have HL := Lib.hid hl
      have LM : Hid (l ∈ ls) := List.mem_of_getElem? hl
      have RW : Hid (Recs w l.a l.n l.cs) := (H.out.recs l LM.out).1
      have NI : Hid (l.a = none → l.c = 0) := H.out.nils l LM.out
      have FS := Lib.hid (flat_snoc hl)
      have hln : an + l.n ≤ 1000 := by
        have h1 := (A.out.recs B.out).len
        have h2 := RW.out.len
        have h3 : (flat ls (k + 1)).length ≤ (ls.map Lg.cs).flatten.length := (sub_flat ((List.take_sublist (k + 1) ls).map Lg.cs)).length_le
        rw [FS.out, List.length_append] at h3
        have h4 := SS.out
        omega
      have q1 : (k : Int) < (n : Int) := by omega
      have RS : Hid (∀ l ∈ ls.take k, Rising l.cs) := R
      clear hl
      obtain ⟨la, ln, lc, lcs⟩ := l
      simp only at hc hln RW NI FS
      go_wp2_with fail
      refine (refRises_any la ln lc lcs wr (RW.out.below B.out) (by omega)).mono ?_
      rintro e w2 ⟨b, rfl, hb, d, rfl⟩
      have A2 : Hid (Lent w (wr.drewN d) w.heap.size aa an ac (flat ls k) xs) := A.out.keep (S := fun _ => False) ((Keep.refl _ _).drewN _) (fun _ _ h => h)
      have B2 : Hid (Below w.heap.size w (wr.drewN d)) := below_drewN B.out d
      have hc2 : (wr.drewN d).cell? ⟨g, off + k, none⟩ = some (.slice la ln lc) := hc
      rcases b with _ | _
      · have NR : Hid (¬ Rising lcs) := fun h => by have := hb.2 h; simp at this
        clear hb hc hc2
        go_wp2_with fail
        go_ret2
        exact ⟨1, none, 0, 0, [], [], rfl, .inl ⟨rfl, rfl, lcs, List.mem_map.2 ⟨_, LM.out, rfl⟩, NR.out⟩, Lent.nil _ _ _, B2.out⟩
      have RI := Lib.hid (hb.1 rfl)
      clear hb hc A B
      generalize wr.drewN d = w3 at A2 B2 hc2 ⊢
      obtain ⟨ys, hyl, hye, hys⟩ := RW.out.src NI.out
      have YE := Lib.hid hye
      have YS : Hid (Src w3 la ln lc 12 (allcells ys)) := hys.below B2.out
      have YL := Lib.hid hyl
      clear hyl hye hys
      go_wp2_with (at_builtin; refine wpList_append_put rfl _ _ 25 rfl w.heap.size 59 i0 (.agg #[.int .i64 0, .int .u64 0, .int .i64 0, .int .u64 0, .int .u64 0, .int .i64 0, .int .i64 0, .string ByteArray.empty, .string ByteArray.empty, .string ByteArray.empty, .slice none 0 0, .slice none 0 0]) 12 152 Try.underlying25 hi0 hz0 hz1 hz2 rfl (by decide) (.slice aa an ac) an (allcells xs) rfl A2.out.row la ln lc (allcells ys) rfl YS.out (by unfold maxLen; omega) (by omega) B2.out.size ?_)
      intro v4 w4 hown hgrow hat
      obtain ⟨a4, c4, rfl⟩ := owns_shape hown
      rw [← allcells_append] at hown
      have K4 : Keep (fun j => (Value.slice aa an ac).ownBlock = some j) w3 w4 := (Keep.refl _ w3).grown hgrow (fun j hj => .inl hj)
      have B4 := Lib.hid (B2.out.trans (K4.below B2.out.size (fun b hb e => by have := (A2.out.row.lt b e).1; omega)))
      have A4 : Hid (Lent w w4 w.heap.size a4 (an + ln) c4 (flat ls (k + 1)) (xs ++ ys)) := ⟨hown, by rw [FS.out]; exact A2.out.each.append YE.out, by rw [List.length_append, A2.out.len, YL.out]⟩
      have R4 : Hid (∀ l ∈ ls.take (k + 1), Rising l.cs) := all_snoc HL.out RS.out RI.out
      clear hown hgrow hat K4 A2 B2 hc2
      go_wp2_with fail
      go_roundw
      case rel => exact ⟨k + 1, a4, an + ln, c4, _, by omega, by go_num, rfl, hln, A4, B4, R4⟩
      case measure => simp [intOf]; omega
    · obtain rfl : k = n := by omega
      have EF : Hid (flat ls k = (ls.map Lg.cs).flatten) := by
        unfold flat
        rw [Hid, List.take_of_length_le (by rw [H.out.len]; exact Nat.le_refl _)]
      have RA : Hid (∀ l ∈ ls, Rising l.cs) := by
        have := R.out
        rwa [List.take_of_length_le (by rw [H.out.len]; exact Nat.le_refl _)] at this
      obtain ⟨FF, hFF⟩ : ∃ FF, FF = flat ls k := ⟨_, rfl⟩
      rw [← hFF] at A EF
      have FL : Hid (FF.length = an) := (A.out.recs B.out).len
      clear R hFF
      go_wp2_with fail
      go_loopw [6, 7] (fun ov iv wr => ∃ (i : Nat) (oa : Option Addr) (oc : Nat) (S : List RC) (ys : List Rq), i ≤ an ∧ iv = .int .i64 i ∧ ov = .slice oa i oc ∧ Hid (Lent w wr w.heap.size oa i oc S ys) ∧ Hid (Lent w wr w.heap.size aa an ac FF xs) ∧ Hid (Apart2 (.slice oa i oc) (.slice aa an ac)) ∧ Hid (Sorted FF i S) ∧ Hid (Below w.heap.size w wr)) (fun _ iv _ => an - (intOf iv).toNat)
      case atStart => exact ⟨0, none, 0, [], [], Nat.zero_le _, rfl, rfl, Lib.hid (Lent.nil _ _ _), A, Lib.hid (fun j hj => by simp [Value.ownBlock] at hj), Lib.hid ⟨fun j c d h => by simp at h, by simp⟩, B⟩
      case round =>
        clear A B
        obtain ⟨i, oa, oc, S, ys, hi, rfl, rfl, O, A, AP, SO, B⟩ := hrel
        rcases (by omega : i < an ∨ an ≤ i) with hlt | hge
        · obtain ⟨ga, rfl⟩ := row_at A.out.row (by omega)
          obtain ⟨x, hx⟩ : ∃ x, xs[i]? = some x := ⟨_, List.getElem?_eq_getElem (by rw [A.out.len]; exact hlt)⟩
          obtain ⟨c, hc, hr⟩ := A.out.each.other hx
          have HX := Lib.hid hx
          have HC := Lib.hid hc
          have RD := Lib.hid hr
          have XL := Lib.hid hr.plain.lsn
          have xr := owns_rec A.out.row hx
          obtain ⟨x0, x1, x2, x3, x4, x5, x6, x7, x8, x9, x10, x11⟩ := xr
          have q1 : (i : Int) < (an : Int) := by omega
          clear hx hc hr
          go_wp2_with (at_builtin; refine wpList_append_put rfl _ _ 25 rfl w.heap.size 59 i0 (.agg #[.int .i64 0, .int .u64 0, .int .i64 0, .int .u64 0, .int .u64 0, .int .i64 0, .int .i64 0, .string ByteArray.empty, .string ByteArray.empty, .string ByteArray.empty, .slice none 0 0, .slice none 0 0]) 12 152 Try.underlying25 hi0 hz0 hz1 hz2 rfl (by decide) (.slice oa i oc) i (allcells ys) rfl ?_ (some ⟨wr.heap.size, 0, none⟩) 1 1 x.cells rfl ?_ (by unfold maxLen; omega) (by omega) ?_ ?_)
          · exact O.out.row.alloc _
          · exact src_new wr 59 12 x.cells rfl x.one
          · have := B.out.size; simp; omega
          intro v5 w5 hown hgrow hat
          obtain ⟨o5, c5, rfl⟩ := owns_shape hown
          obtain ⟨g, rfl⟩ := row_at (xs := ys ++ [x]) (by rw [allcells_snoc]; exact hown) (by omega)
          rw [← allcells_snoc] at hown
          have K5 : Keep (fun j => (Value.slice oa i oc).ownBlock = some j) wr w5 := ((Keep.refl _ wr).alloc _).grown hgrow (fun j hj => .inl hj)
          have B5 := Lib.hid (B.out.trans (K5.below B.out.size (fun b hb e => by have := (O.out.row.lt b e).1; omega)))
          have A5 := Lib.hid (A.out.keep K5 (fun b hb e => AP.out b e hb))
          have AP5 : Hid (g ≠ ga) := fun e => by
            subst e
            rcases hat g rfl with h1 | h1
            · exact AP.out g h1 rfl
            · have h2 := (A.out.row.lt g rfl).2
              first | omega | (simp at h1; omega)
          have SL : Hid (S.length = i) := SO.out.len (by rw [FL.out]; exact hi)
          have YL : Hid (ys.length = i) := O.out.len
          have O5 : Hid (Lent w w5 w.heap.size (some ⟨g, 0, none⟩) (i + 1) c5 (ins S i c) (ins ys i x)) := by
            have e1 := ins_end S c
            have e2 := ins_end ys x
            rw [SL.out] at e1
            rw [YL.out] at e2
            rw [e1, e2]
            exact ⟨hown, O.out.each.snoc RD.out, by simp [YL.out]⟩
          have HI0 : Hid (∀ d ∈ S.drop i, c.lsn < d.lsn) := fun d hd => by
            rw [List.drop_of_length_le (by rw [SL.out]; exact Nat.le_refl _)] at hd
            cases hd
          have EO := Lib.hid O.out.each
          obtain ⟨N, hN⟩ : ∃ N, N = i + 1 := ⟨_, rfl⟩
          rw [← hN] at O5
          rw [← hN]
          clear hown hgrow hat K5 x0 x1 x2 x3 x4 x5 x6 x7 x8 x9 x10 x11 B A O AP
          go_wp2_with fail
          go_loopw [8] (fun kv wr => ∃ (k : Nat), k ≤ i ∧ kv = .int .i64 k ∧ Hid (Lent w wr w.heap.size (some ⟨g, 0, none⟩) N c5 (ins S k c) (ins ys k x)) ∧ Hid (Lent w wr w.heap.size (some ⟨ga, 0, none⟩) an ac FF xs) ∧ Hid (Below w.heap.size w wr) ∧ Hid (∀ d ∈ S.drop k, c.lsn < d.lsn)) (fun kv _ => (intOf kv).toNat)
          case atStart => exact ⟨i, Nat.le_refl _, rfl, O5, A5, B5, HI0⟩
          case round =>
            clear O5 A5 B5 HI0
            obtain ⟨k, hk, rfl, O, A, B, HI⟩ := hrel
            have xa := (owns_rec A.out.row HX.out).c1
            have APN : Hid (Apart2 (.slice (some ⟨g, 0, none⟩) N c5) (.slice (some ⟨ga, 0, none⟩) an ac)) := fun j h1 h2 => by
              simp only [Value.ownBlock, Option.some.injEq] at h1 h2
              exact AP5.out (h1.trans h2.symm)
            rcases Nat.eq_zero_or_pos k with h0 | hpos
            · subst h0
              have SN := Lib.hid (SO.out.next HC.out (Nat.zero_le _) (fun p y h => by omega) HI.out)
              go_wp2_with fail
              go_quiet (fail)
              generalize hwa : wr.drewN _ = wa
              have O2 : Hid (Lent w wa w.heap.size (some ⟨g, 0, none⟩) N c5 (ins S 0 c) (ins ys 0 x)) := by rw [← hwa]; exact O.out.drewN _
              have A2 : Hid (Lent w wa w.heap.size (some ⟨ga, 0, none⟩) an ac FF xs) := by rw [← hwa]; exact A.out.drewN _
              have B2 : Hid (Below w.heap.size w wa) := by rw [← hwa]; exact below_drewN B.out _
              clear hwa xa O A B
              go_wp2_with fail
              go_quiet (fail)
              generalize hwa : wa.drewN _ = wb
              have O3 : Hid (Lent w wb w.heap.size (some ⟨g, 0, none⟩) N c5 (ins S 0 c) (ins ys 0 x)) := by rw [← hwa]; exact O2.out.drewN _
              have A3 : Hid (Lent w wb w.heap.size (some ⟨ga, 0, none⟩) an ac FF xs) := by rw [← hwa]; exact A2.out.drewN _
              have B3 : Hid (Below w.heap.size w wb) := by rw [← hwa]; exact below_drewN B2.out _
              clear hwa O2 A2 B2
              go_wp2_with fail
              rw [hN] at O3 APN
              try rw [hN]
              go_roundw
              case rel => exact ⟨i + 1, some ⟨g, 0, none⟩, c5, _, _, by omega, by go_num, rfl, O3, A3, APN, SN, B3⟩
              case measure => simp [intOf]; omega
            · obtain ⟨p, hp⟩ : ∃ p, p + 1 = k := ⟨k - 1, by omega⟩
              have hkS : k ≤ S.length := by rw [SL.out]; exact hk
              obtain ⟨d, hd⟩ : ∃ d, S[p]? = some d := ⟨_, List.getElem?_eq_getElem (by omega)⟩
              obtain ⟨y, hy, hyr⟩ := EO.out.that hd
              have hyk : k ≤ ys.length := by rw [YL.out]; exact hk
              have gy : (ins ys k x)[p]? = some y := by rw [ins_get _ _ hyk, if_pos (by omega)]; exact hy
              have gx : (ins ys k x)[k]? = some x := by rw [ins_get _ _ hyk, if_neg (by omega), if_pos rfl]
              have yr := owns_rec O.out.row gy
              have DL := Lib.hid hyr.plain.lsn
              have HP := Lib.hid hp
              have HD := Lib.hid hd
              have HY := Lib.hid hy
              have GX := Lib.hid gx
              have GY := Lib.hid gy
              have HYK := Lib.hid hyk
              have HKS := Lib.hid hkS
              have y1 := yr.c1
              have q2 : IntKind.i64.wrap ((k : Int) - 1) = (p : Int) := by rw [IntWalk.i64_in _ (by omega)]; omega
              have q4 : (0 : Int) < (k : Int) := by omega
              have q5 : (p : Int) < (N : Int) := by omega
              have q6 : (k : Int) < (N : Int) := by omega
              clear hp hd hy hyr gx gy hyk hkS
              by_cases hgt : x.lsn < y.lsn
              · go_wp2_with fail
                go_quiet (fail)
                generalize hwa : wr.drewN _ = wa
                have O2 : Hid (Lent w wa w.heap.size (some ⟨g, 0, none⟩) N c5 (ins S k c) (ins ys k x)) := by rw [← hwa]; exact O.out.drewN _
                have A2 : Hid (Lent w wa w.heap.size (some ⟨ga, 0, none⟩) an ac FF xs) := by rw [← hwa]; exact A.out.drewN _
                have B2 : Hid (Below w.heap.size w wa) := by rw [← hwa]; exact below_drewN B.out _
                clear hwa xa y1 yr O A B
                go_wp2_with fail
                have LZ : Hid ((ins ys k x).length = i + 1) := by
                  have := ins_length ys x HYK.out
                  rw [YL.out] at this
                  exact this
                have SW := Lib.hid (rec_swap (O2.out.keep (S := fun _ => False) ((Keep.refl _ _).drew) (fun _ _ h => h)).row HP.out HY.out HYK.out)
                obtain ⟨y0, y1, y2, y3, y4, y5, y6, y7, y8, y9, y10, y11⟩ := owns_rec O2.out.row GY.out
                obtain ⟨x0, x1, x2, x3, x4, x5, x6, x7, x8, x9, x10, x11⟩ := owns_rec O2.out.row GX.out
                have fz : ∀ o, wa.frozen? ⟨g, o, none⟩ = false := fun o => by
                  obtain ⟨cur, hc⟩ := owns_cells O2.out.row (b := g) rfl
                  simp [World.frozen?, hc]
                have hpk := HP.out
                have n1 : ∀ i j, i < 12 → j < 12 → ¬ (k * 12 + i = p * 12 + j) := fun i j h1 h2 => by omega
                have n2 : ∀ j, j < 12 → ¬ (k * 12 = p * 12 + j) := fun j h2 => by omega
                have n3 : ∀ i, i < 12 → ¬ (k * 12 + i = p * 12) := fun i h1 => by omega
                have n4 : ¬ (k * 12 = p * 12) := by omega
                clear hpk
                obtain ⟨sr, sk⟩ := rec_swap O2.out.row HP.out HY.out HYK.out
                have KD : Hid (Keep (fun b => b = g) wa ((wa.setCells g (k * 12) y.cells).setCells g (p * 12) x.cells).drew) := sk.trans (Keep.refl (fun b => b = g) _).drew (fun _ h => .inl h)
                have hpy : p ≤ ys.length := by have := HYK.out; have := HP.out; omega
                have O3 : Hid (Lent w ((wa.setCells g (k * 12) y.cells).setCells g (p * 12) x.cells).drew w.heap.size (some ⟨g, 0, none⟩) N c5 (ins S p c) (ins ys p x)) :=
                  ⟨owns_keep sr (Keep.refl (fun _ => False) _).drew (fun _ _ h => h), EO.out.ins RD.out hpy, by rw [ins_length _ _ hpy, ← ins_length ys x HYK.out]; exact O2.out.len⟩
                have A3 : Hid (Lent w ((wa.setCells g (k * 12) y.cells).setCells g (p * 12) x.cells).drew w.heap.size (some ⟨ga, 0, none⟩) an ac FF xs) := A2.out.keep KD.out (fun b hb e => by
                  simp only [Value.ownBlock, Option.some.injEq] at hb
                  exact AP5.out (e.symm.trans hb.symm))
                have B3 : Hid (Below w.heap.size w ((wa.setCells g (k * 12) y.cells).setCells g (p * 12) x.cells).drew) := B2.out.trans (KD.out.below B2.out.size (fun b hb e => by have := (O2.out.row.lt g rfl).1; omega))
                have HI3 : Hid (∀ e ∈ S.drop p, c.lsn < e.lsn) := fun e he => by
                  rw [show S.drop p = d :: S.drop (p + 1) by
                    have h1 := HD.out
                    obtain ⟨h3, rfl⟩ := List.getElem?_eq_some_iff.1 h1
                    exact List.drop_eq_getElem_cons h3] at he
                  rcases List.mem_cons.1 he with rfl | he
                  · rw [← DL.out, ← XL.out]; exact hgt
                  · rw [HP.out] at he; exact HI.out e he
                clear sr sk hpy
                go_region
                go_wp2_with fail
                go_roundw
                case rel => exact ⟨p, by have := HP.out; omega, by go_num, O3, A3, B3, HI3⟩
                case measure => have := HP.out; simp [intOf]; omega
              · by_cases heq : y.lsn = x.lsn
                · have TW : Hid (¬ (FF.map RC.lsn).Nodup) := SO.out.twice HC.out (List.mem_of_getElem? HD.out) (by rw [← DL.out, ← XL.out]; exact heq)
                  go_wp2_with fail
                  go_quiet (fail)
                  generalize hwa : wr.drewN _ = wa
                  have O2 : Hid (Lent w wa w.heap.size (some ⟨g, 0, none⟩) N c5 (ins S k c) (ins ys k x)) := by rw [← hwa]; exact O.out.drewN _
                  have A2 : Hid (Lent w wa w.heap.size (some ⟨ga, 0, none⟩) an ac FF xs) := by rw [← hwa]; exact A.out.drewN _
                  have B2 : Hid (Below w.heap.size w wa) := by rw [← hwa]; exact below_drewN B.out _
                  clear hwa xa y1 yr O A B
                  have xa := (owns_rec A2.out.row HX.out).c1
                  have y1 := (owns_rec O2.out.row GY.out).c1
                  go_wp2_with fail
                  go_quiet (fail)
                  have B3 := Lib.hid (below_drewN B2.out)
                  go_wp2_with fail
                  go_ret2
                  exact ⟨9, none, 0, 0, [], [], rfl, .inr ⟨fun l hl => by
                    obtain ⟨m, hm, rfl⟩ := List.mem_map.1 hl
                    exact RA.out m hm, .inr ⟨rfl, rfl, by rw [← EF.out]; exact TW.out⟩⟩, Lent.nil _ _ _, B3.out _⟩
                · have SN := Lib.hid (SO.out.next HC.out HKS.out (fun p' y' e1 e2 => by
                    have := HP.out
                    obtain rfl : p' = p := by omega
                    have h1 := HD.out
                    rw [h1] at e2
                    simp at e2
                    subst e2
                    rw [← DL.out, ← XL.out]
                    omega) HI.out)
                  go_wp2_with fail
                  go_quiet (fail)
                  generalize hwa : wr.drewN _ = wa
                  have O2 : Hid (Lent w wa w.heap.size (some ⟨g, 0, none⟩) N c5 (ins S k c) (ins ys k x)) := by rw [← hwa]; exact O.out.drewN _
                  have A2 : Hid (Lent w wa w.heap.size (some ⟨ga, 0, none⟩) an ac FF xs) := by rw [← hwa]; exact A.out.drewN _
                  have B2 : Hid (Below w.heap.size w wa) := by rw [← hwa]; exact below_drewN B.out _
                  clear hwa xa y1 yr O A B
                  have xa := (owns_rec A2.out.row HX.out).c1
                  have y1 := (owns_rec O2.out.row GY.out).c1
                  go_wp2_with fail
                  go_quiet (fail)
                  generalize hwa : wa.drewN _ = wb
                  have O3 : Hid (Lent w wb w.heap.size (some ⟨g, 0, none⟩) N c5 (ins S k c) (ins ys k x)) := by rw [← hwa]; exact O2.out.drewN _
                  have A3 : Hid (Lent w wb w.heap.size (some ⟨ga, 0, none⟩) an ac FF xs) := by rw [← hwa]; exact A2.out.drewN _
                  have B3 : Hid (Below w.heap.size w wb) := by rw [← hwa]; exact below_drewN B2.out _
                  clear hwa O2 A2 B2
                  go_wp2_with fail
                  rw [hN] at O3 APN
                  try rw [hN]
                  go_roundw
                  case rel => exact ⟨i + 1, some ⟨g, 0, none⟩, c5, _, _, by omega, by go_num, rfl, O3, A3, APN, SN, B3⟩
                  case measure => simp [intOf]; omega
        · obtain rfl : i = an := by omega
          go_wp2_with fail
          go_ret2
          refine ⟨0, oa, i, oc, S, ys, rfl, .inr ⟨fun l hl => ?_, .inl ⟨rfl, ?_, SO.out.rise⟩⟩, O.out, B.out⟩
          · obtain ⟨m, hm, rfl⟩ := List.mem_map.1 hl
            exact RA.out m hm
          · have := SO.out.perm
            rwa [List.take_of_length_le (by rw [FL.out]; exact Nat.le_refl _), EF.out] at this

end Go.Proofs.Ythgkhhgabpebmaa
