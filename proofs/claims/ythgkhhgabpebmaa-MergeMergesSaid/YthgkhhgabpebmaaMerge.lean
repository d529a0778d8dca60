/- 'Merge': several logs as one. -/
import Derived.Test.YthgkhhgabpebmaaLogs
import Derived.Test.YthgkhhgabpebmaaPush
import Derived.Test.YthgkhhgabpebmaaPop
namespace Go.Proofs.Ythgkhhgabpebmaa
open Go.RowKit
set_option linter.unusedVariables false
set_option linter.unusedSimpArgs false

/-- How long a slice is. -/
def lenOf : Value → Nat
  | .slice _ n _ => n
  | _ => 0

/-- The logs that have something. -/
def some1 (ls : List Lg) : List Lg := ls.filter fun l => l.n != 0

set_option maxHeartbeats 4000000 in
set_option maxRecDepth 1000000 in
theorem merge_any (a : Option Addr) (n cap : Nat) (ls : List Lg) (w : World) (h : Logs w a n ls) (hf : Few ls) :
    Calls Try.prog 10 #[.slice a n cap] w (MergePost w ls) := by
  obtain ⟨i0, hi0, hz0, hz1, hz2⟩ := info_parts info59
  have H := Lib.hid h
  have F := Lib.hid hf
  have hn : n ≤ 1000 := by rw [← h.len]; exact hf.logs
  clear h hf
  go_enter Try.func10, Try.ntmps10
  go_wp2_with fail
  refine (newHeap_any w).mono ?_
  rintro e w1 ⟨rfl, rfl⟩
  have A1 : Hid (HeapAt (w.alloc (.cells #[.func (.func 30) #[] #[], .slice none 0 0] 81)) w.heap.size w.heap.size none 0 0 []) := HeapAt.new w w.heap.size
  have B1 : Hid (Below w.heap.size w (w.alloc (.cells #[.func (.func 30) #[] #[], .slice none 0 0] 81))) := ((Keep.refl (fun _ => False) w).alloc _).below (Nat.le_refl _) (fun _ _ h => h)
  generalize w.alloc (.cells #[.func (.func 30) #[] #[], .slice none 0 0] 81) = w1 at A1 B1 ⊢
  go_wp2_with fail
  go_loopw [14] (fun i wr => ∃ (k : Nat) (ha : Option Addr) (hn hcap : Nat) (us : List Lg), k ≤ n ∧ i = .int .i64 k ∧ HeapAt wr w.heap.size w.heap.size ha hn hcap us ∧ Ord Lg.key us ∧ us.Perm (some1 (ls.take k)) ∧ (∀ l ∈ ls.take k, Rising l.cs) ∧ Below w.heap.size w wr) (fun i _ => n - (intOf i).toNat)
  case atStart => exact ⟨0, none, 0, 0, [], Nat.zero_le _, rfl, A1.out, Ord.nil _, by simp [some1], fun l hl => by simp at hl, B1.out⟩
  case round =>
    clear A1 B1
    obtain ⟨k, ha, hn', hcap, us, hk, rfl, hA, hO, hP, hR, hB⟩ := hrel
    have HA := Lib.hid hA
    have HO := Lib.hid hO
    have HP := Lib.hid hP
    have HR := Lib.hid hR
    have HB := Lib.hid hB
    have hus : us.length ≤ 1000 := by
      have h1 := hP.length_eq
      have h2 : (some1 (ls.take k)).length ≤ (ls.take k).length := List.length_filter_le _ _
      have h3 := H.out.len
      rw [List.length_take] at h2
      omega
    have HUS := Lib.hid hus
    have hmem : ∀ u ∈ us, u ∈ ls ∧ u.n ≠ 0 := fun u hu => by
      have := hP.subset hu
      obtain ⟨h1, h2⟩ := List.mem_filter.1 this
      exact ⟨List.mem_of_mem_take h1, by simpa using h2⟩
    have okl : ∀ u, u ∈ ls → u.n ≠ 0 → u.Ok w := fun u hu h0 => ⟨(H.out.recs u hu).1, h0, (H.out.recs u hu).2.1, (H.out.recs u hu).2.2⟩
    have OKL := Lib.hid okl
    have OKU : Hid (∀ u ∈ us, u.Ok w) := fun u hu => okl u (hmem u hu).1 (hmem u hu).2
    clear hA hO hP hR hus hmem okl
    rcases (by omega : k < n ∨ n ≤ k) with hlt | hge
    · obtain ⟨l, hl⟩ := H.out.at hlt
      obtain ⟨g, off, rfl, hc⟩ := (H.out.below hB).get k l hl
      have HL := Lib.hid hl
      have LM : Hid (l ∈ ls) := List.mem_of_getElem? hl
      have LN : Hid (l.n ≤ 100000) := by have := F.out.len LM.out; rw [(H.out.recs l LM.out).1.len] at this; exact this
      obtain ⟨la, ln, lc, lcs⟩ := l
      simp only at hc
      clear hl hB
      go_wp2_with fail
      refine (rises_any la ln lc lcs wr ((H.out.recs _ LM.out).1.below HB.out) (by have : ln ≤ 100000 := LN.out; omega)).mono ?_
      rintro e w2 ⟨b, rfl, hb, d, rfl⟩
      cases b
      · have NR : Hid (¬ Rising lcs) := fun h => by have := hb.2 h; simp at this
        clear hb hc
        go_wp2_with fail
        go_ret2
        exact ⟨1, none, 0, 0, [], [], rfl, .inl ⟨rfl, rfl, lcs, List.mem_map.2 ⟨_, LM.out, rfl⟩, NR.out⟩, Told.nil _ _, below_drewN HB.out _⟩
      · have RI := Lib.hid (hb.1 rfl)
        have RK : Hid (∀ l ∈ ls.take (k + 1), Rising l.cs) := fun l hl => by
          rw [List.take_add_one, HL.out] at hl
          rcases List.mem_append.1 hl with hl | hl
          · exact HR.out l hl
          · simp at hl; subst hl; exact RI.out
        clear hb hc
        have A2 : Hid (HeapAt (wr.drewN d) w.heap.size w.heap.size ha hn' hcap us) := ⟨HA.out.top, HA.out.row, HA.out.len⟩
        have B2 := Lib.hid (below_drewN HB.out d)
        generalize wr.drewN d = w2 at A2 B2 ⊢
        rcases Nat.eq_zero_or_pos ln with h0 | hpos
        · subst h0
          have PK : Hid (us.Perm (some1 (ls.take (k + 1)))) := by
            have e : some1 (ls.take (k + 1)) = some1 (ls.take k) := by rw [List.take_add_one, HL.out]; simp [some1]
            rw [e]; exact HP.out
          clear HA HB
          go_wp2_with fail
          go_roundw
          case rel => exact ⟨k + 1, ha, hn', hcap, us, by omega, by go_num, A2.out, HO.out, PK.out, RK.out, B2.out⟩
          case measure => simp [intOf]; omega
        · have n0 : ln ≠ 0 := by omega
          have PK : Hid ((us ++ [(⟨la, ln, lc, lcs⟩ : Lg)]).Perm (some1 (ls.take (k + 1)))) := by
            have e : some1 (ls.take (k + 1)) = some1 (ls.take k) ++ [(⟨la, ln, lc, lcs⟩ : Lg)] := by rw [List.take_add_one, HL.out]; simp [some1, n0]
            rw [e]; exact HP.out.append_right _
          have N0 := Lib.hid n0
          clear HA HB n0
          go_wp2_with fail
          refine (push_any w w.heap.size w.heap.size ha hn' hcap us ⟨la, ln, lc, lcs⟩ w2 A2.out HO.out (fun u hu => ?_) B2.out (Nat.le_refl _) (Nat.le_refl _) B2.out.size (by rw [← A2.out.len]; have := HUS.out; omega)).mono ?_
          · rcases List.mem_append.1 hu with hu | hu
            · exact OKU.out u hu
            · simp at hu; subst hu; exact OKL.out _ LM.out N0.out
          rintro e w3 ⟨ha3, hcap3, vs, rfl, hA3, hO3, hP3, hK3, hB3⟩
          have A3 := Lib.hid hA3
          have O3 := Lib.hid hO3
          have P3 := Lib.hid (hP3.trans PK.out)
          have B3 := Lib.hid hB3
          clear hA3 hO3 hP3 hK3 hB3
          go_wp2_with fail
          go_roundw
          case rel => exact ⟨k + 1, ha3, hn' + 1, hcap3, vs, by omega, by go_num, A3.out, O3.out, P3.out, RK.out, B3.out⟩
          case measure => simp [intOf]; omega
    · clear hB
      obtain rfl : k = n := by omega
      have hall : ls.take k = ls := List.take_of_length_le (by rw [H.out.len]; exact Nat.le_refl _)
      rw [hall] at HP HR
      have I0 : Hid (Inv w (ls.map Lg.cs).flatten us []) := Inv.start HP.out OKU.out HR.out (fun l hl => (H.out.recs l hl).1.len)
      have FL : Hid ((ls.map Lg.cs).flatten.length ≤ 100000) := F.out.recs
      have FW : Hid (∀ c ∈ (ls.map Lg.cs).flatten, c.few) := fun c hc => by
        obtain ⟨l, hl, hcl⟩ := List.mem_flatten.1 hc
        obtain ⟨u, hu, rfl⟩ := List.mem_map.1 hl
        exact F.out.each u hu c hcl
      clear hall HP OKU OKL HUS
      generalize hFF : (ls.map Lg.cs).flatten = FF at I0 FL FW
      have HFF := Lib.hid hFF
      clear hFF
      go_wp2_with fail
      go_loopw [7] (fun o wr => ∃ (oa : Option Addr) (on oc : Nat) (cs : List RC) (xs : List Rq) (ha : Option Addr) (hn hcap : Nat) (us : List Lg), o = .slice oa on oc ∧ HeapAt wr w.heap.size w.heap.size ha hn hcap us ∧ Ord Lg.key us ∧ Inv w FF us cs ∧ Told wr w.heap.size oa on oc cs xs ∧ Below w.heap.size w wr) (fun o _ => FF.length + 1 - lenOf o)
      case atStart => exact ⟨none, 0, 0, [], [], ha, hn', hcap, us, rfl, HA.out, HO.out, I0.out, Told.nil _ _, HB.out⟩
      case round =>
        clear HA HO HB I0 hk hge
        obtain ⟨oa, on, oc, cs, xs, ha, hm, hcap, us, rfl, hA, hO, hI, hT, hB⟩ := hrel
        have HA := Lib.hid hA
        have HO := Lib.hid hO
        have HI := Lib.hid hI
        have HT := Lib.hid hT
        have HB := Lib.hid hB
        have SZ : Hid (on + hm ≤ 100000 ∧ on = cs.length ∧ on + hm ≤ FF.length) := by
          have h1 := hI.size
          have h2 := hT.each.len
          have h3 := hT.len
          have h4 := hA.len
          have := FL.out
          exact Lib.hid (by omega)
        clear hA hO hI hT hB
        rcases hm with _ | m
        · have DN : Hid (cs.Perm FF ∧ Rising cs) := by
            have : us = [] := List.eq_nil_of_length_eq_zero HA.out.len
            subst this
            exact HI.out.done
          go_wp2_with fail
          refine (pop_none w.heap.size w.heap.size ha hcap us wr HA.out).mono ?_
          rintro e w2 ⟨rfl, rfl⟩
          go_wp2_with fail
          go_ret2
          exact ⟨0, oa, on, oc, cs, xs, rfl, .inr ⟨fun l hl => by obtain ⟨u, hu, rfl⟩ := List.mem_map.1 hl; exact HR.out u hu, .inl ⟨rfl, by rw [HFF.out]; exact DN.out.1, DN.out.2⟩⟩, HT.out, HB.out⟩
        · obtain ⟨u0, hu0⟩ : ∃ u, us[0]? = some u := ⟨_, List.getElem?_eq_getElem (by rw [HA.out.len]; omega)⟩
          have M0 : Hid (u0 ∈ us) := List.mem_of_getElem? hu0
          have MIN : Hid (∀ u ∈ us, u0.key ≤ u.key) := fun u hu => by
            obtain ⟨j, hj, rfl⟩ := List.mem_iff_getElem.1 hu
            exact HO.out.least Lg.key hu0 j _ (List.getElem?_eq_getElem hj)
          have U0 := Lib.hid hu0
          clear hu0
          go_wp2_with fail
          refine (pop_some w w.heap.size w.heap.size ha m hcap us u0 wr HA.out U0.out HO.out (fun u hu => (HI.out.ok u hu).1) HB.out (Nat.le_refl _) (Nat.le_refl _) (by have := SZ.out.1; omega)).mono ?_
          rintro e w2 ⟨ha2, vs, rfl, hA2, hO2, hP2, hK2, hB2⟩
          have A2 := Lib.hid hA2
          have O2 := Lib.hid hO2
          have P2 := Lib.hid hP2
          have T2 := Lib.hid (HT.out.keep hK2 (fun b cur T hc hT _ => heapish_ne HA.out.top hc (by rcases hT with rfl | rfl | rfl <;> decide) (by rcases hT with rfl | rfl | rfl <;> decide)))
          have B2 := Lib.hid hB2
          clear hA2 hO2 hP2 hK2 hB2 HA HT HB
          obtain ⟨g, off, x, c, r, ea, ec, hx, hr, ekey⟩ := (HI.out.ok u0 M0.out).1.head
          have hx2 := hx.below B2.out
          have RD := Lib.hid hr
          have UK := Lib.hid (HI.out.ok u0 M0.out)
          obtain ⟨ua, un, uc, ucs⟩ := u0
          simp only at ea ec
          subst ea ec
          have CF : Hid (c.few) := FW.out c (HI.out.mem M0.out List.mem_cons_self)
          have XL := Lib.hid hr.plain.lsn
          have un0 : 0 < un := Nat.pos_of_ne_zero UK.out.1.nonempty
          have unc : un ≤ uc := UK.out.1.cap
          have uct : uc ≤ 9223372036854775807 := UK.out.1.top
          have UL : Hid (un = r.length + 1) := by have := UK.out.1.recs.len; simp at this; exact Lib.hid (by omega)
          clear hr hx ekey
          have c1 := hx2.c1
          simp only
          -- is the last that was told of the same number?
          have three : on = 0 ∨ ∃ p d y og, p + 1 = on ∧ cs[p]? = some d ∧ oa = some ⟨og, 0, none⟩ ∧ w2.cell? ⟨og, p * 12 + 1, none⟩ = some (.int .u64 y) ∧ y = d.lsn := by
            rcases Nat.eq_zero_or_pos on with h0 | hpos
            · exact .inl h0
            · obtain ⟨p, hp⟩ : ∃ p, p + 1 = on := ⟨on - 1, by omega⟩
              obtain ⟨d, hd⟩ : ∃ d, cs[p]? = some d := ⟨_, List.getElem?_eq_getElem (by have := SZ.out.2.1; omega)⟩
              obtain ⟨og, off', y, e1, hy, hry⟩ := T2.out.recs.get p d hd
              have e2 : off' = 0 := by
                rcases T2.out.row.2 with ⟨hv, _⟩ | ⟨g', cap', cur, hv, _⟩
                · simp only [Value.slice.injEq] at hv; omega
                · simp only [Value.slice.injEq] at hv
                  rw [e1] at hv
                  simp at hv
                  exact hv.1.2
              subst e2
              exact .inr ⟨p, d, y.lsn, og, hp, hd, e1, by have := hy.c1; rwa [Nat.zero_add] at this, hry.plain.lsn⟩
          rcases three with h0 | ⟨p, d, yl, og, hp, hd, rfl, hy, hyl⟩
          · have gd : decide (0 < on) = false := decide_eq_false (by omega)
            have H0 := Lib.hid h0
            clear h0
            go_wp2_with fail
            go_quiet (fail)
            have NE : Hid (∀ e, cs[cs.length - 1]? = some e → e.lsn ≠ c.lsn) := fun e he => by
              have h1 := SZ.out.2.1
              have h2 := H0.out
              have : cs = [] := List.eq_nil_of_length_eq_zero (by omega)
              subst this
              simp at he
            go_upto_region 17 with fail
            generalize hw3 : w2.drewN _ = w3
            have A3 : Hid (HeapAt w3 w.heap.size w.heap.size ha2 m hcap vs) := by rw [← hw3]; exact ⟨A2.out.top, A2.out.row, A2.out.len⟩
            have K3 : Keep (fun _ => False) w2 w3 := by rw [← hw3]; exact (Keep.refl _ _).drewN _
            have T3 := Lib.hid (T2.out.none K3)
            have B3 : Hid (Below w.heap.size w w3) := by rw [← hw3]; exact below_drewN B2.out _
            have hx3 := hx2.keep K3 (fun h => h)
            have R3 := Lib.hid (RD.out.below B3.out)
            clear hw3 A2 T2 B2 K3 hx2 c1 RD gd
            obtain ⟨x0, x1, x2, x3, x4, x5, x6, x7, x8, x9, x10, x11⟩ := hx3
            go_wp2_with fail
            refine (copied_any x c w3 R3.out CF.out).mono ?_
            rintro e w4 ⟨y, rfl, hk4, hy⟩
            have A4 := Lib.hid (A3.out.keep hk4 (fun h => h) (fun _ _ h => h))
            have T4 := Lib.hid (T3.out.none hk4)
            have B4 := Lib.hid (keep0_below B3.out hk4 B3.out.size)
            have HY := Lib.hid (hy.base B3.out.size)
            clear hk4 hy A3 T3 B3 R3 x0 x1 x2 x3 x4 x5 x6 x7 x8 x9 x10 x11
            have on1 : on ≤ 100000 := by have := SZ.out.1; omega
            go_wp2_with (at_builtin; refine wpList_append_src rfl _ _ 25 rfl w.heap.size 59 i0 (.agg #[.int .i64 0, .int .u64 0, .int .i64 0, .int .u64 0, .int .u64 0, .int .i64 0, .int .i64 0, .string ByteArray.empty, .string ByteArray.empty, .string ByteArray.empty, .slice none 0 0, .slice none 0 0]) 12 152 Try.underlying25 hi0 hz0 hz1 hz2 rfl (by decide) (.slice oa on oc) on (allcells xs) rfl ?_ (some ⟨w4.heap.size, 0, none⟩) 1 1 y.cells rfl ?_ (by unfold maxLen; omega) (by omega) ?_ ?_)
            · exact T4.out.row.alloc _
            · exact src_new w4 59 12 y.cells rfl y.one
            · have := B4.out.size; simp; omega
            intro v' w5 hown hgrow hne
            obtain ⟨oa5, oc5, rfl⟩ := owns_shape hown
            rw [← allcells_snoc] at hown
            have K5 : Keep (fun j => (Value.slice oa on oc).ownBlock = some j) w4 w5 := ((Keep.refl _ w4).alloc _).grown hgrow (fun j hj => .inl hj)
            have T5 := Lib.hid (T4.out.snoc HY.out K5 hown)
            have A5 := Lib.hid (A4.out.keep K5 (fun e => owns_ne T4.out.row A4.out.top (by decide) e rfl) (fun b hb e => by
              obtain ⟨cur1, hc1⟩ := owns_cells T4.out.row e
              obtain ⟨cur2, hc2⟩ := owns_cells A4.out.row hb
              rw [hc1] at hc2
              simp at hc2))
            have B5 : Hid (Below w.heap.size w w5) := B4.out.trans (K5.below B4.out.size (fun b hb e => by have := (T4.out.row.lt b e).1; omega))
            have LN5 : Hid ((cs ++ [c]).length = on + 1) := by have := SZ.out.2.1; exact Lib.hid (by simp; omega)
            clear hown hgrow hne K5 T4 A4 B4 HY
            rcases (by omega : un = 1 ∨ 1 < un) with u1 | u1
            · subst u1
              have IN : Hid (Inv w FF vs (cs ++ [c])) := HI.out.next (tl := []) P2.out MIN.out rfl NE.out (by simp) (by have := UL.out; symm; exact List.eq_nil_of_length_eq_zero (by omega)) (fun u hu => by simp at hu)
              go_wp2_with fail
              go_roundw
              case rel => exact ⟨oa5, on + 1, oc5, cs ++ [c], _, ha2, m, hcap, vs, rfl, A5.out, O2.out, IN.out, T5.out, B5.out⟩
              case measure => simp [lenOf]; have := SZ.out.2.2; omega
            · obtain ⟨q, hq⟩ : ∃ q, un = q + 1 + 1 := ⟨un - 2, by omega⟩
              have TL : Hid ((⟨some ⟨g, off + 12, none⟩, un - 1, uc - 1, r⟩ : Lg).Ok w ∧ Rising r) := by
                have h1 := UK.out.1.recs
                simp only at h1
                refine ⟨⟨?_, by simp only; omega, by simp only; omega, by simp only; omega⟩, UK.out.2.tail⟩
                simp only
                rw [show un = (un - 1) + 1 by omega] at h1
                exact h1.rest
              have Q := Lib.hid hq
              clear hq
              go_wp2_with fail
              refine (push_any w w.heap.size w.heap.size ha2 m hcap vs ⟨some ⟨g, off + 12, none⟩, un - 1, uc - 1, r⟩ w5 A5.out O2.out (fun u hu => ?_) B5.out (Nat.le_refl _) (Nat.le_refl _) B5.out.size (by have := SZ.out.1; omega)).mono ?_
              · rcases List.mem_append.1 hu with hu | hu
                · exact (HI.out.ok u (P2.out.subset (List.mem_cons_of_mem _ hu))).1
                · rw [List.mem_singleton] at hu; subst hu; exact TL.out.1
              rintro e w6 ⟨ha6, hcap6, vs6, rfl, hA6, hO6, hP6, hK6, hB6⟩
              have A6 := Lib.hid hA6
              have O6 := Lib.hid hO6
              have T6 := Lib.hid (T5.out.keep hK6 (fun b cur T hc hT _ => heapish_ne A5.out.top hc (by rcases hT with rfl | rfl | rfl <;> decide) (by rcases hT with rfl | rfl | rfl <;> decide)))
              have B6 := Lib.hid hB6
              have IN : Hid (Inv w FF vs6 (cs ++ [c])) := HI.out.next (tl := [⟨some ⟨g, off + 12, none⟩, un - 1, uc - 1, r⟩]) P2.out MIN.out rfl NE.out (hP6.trans (List.perm_append_comm)) (by simp) (fun u hu => by rw [List.mem_singleton] at hu; subst hu; exact TL.out)
              clear hA6 hO6 hP6 hK6 hB6
              go_wp2_with fail
              go_roundw
              case rel => exact ⟨oa5, on + 1, oc5, cs ++ [c], _, ha6, m + 1, hcap6, vs6, rfl, A6.out, O6.out, IN.out, T6.out, B6.out⟩
              case measure => simp [lenOf]; have := SZ.out.2.2; omega
          · have q7 : 0 < on := by omega
            have q1 : IntKind.i64.wrap ((on : Int) - 1) = (p : Int) := by rw [IntWalk.i64_in _ (by have := SZ.out.1; omega)]; omega
            have q7 : 0 < on := by omega
            have q4 : (0 : Int) < (on : Int) := by omega
            have q5 : (p : Int) < (on : Int) := by omega
            have q6 : on ≤ 100000 := by have := SZ.out.1; omega
            have PD := Lib.hid hd
            have PP := Lib.hid hp
            have YL := Lib.hid hyl
            clear hd hp hyl
            by_cases heq : yl = x.lsn
            · have TW : Hid (¬ (FF.map RC.lsn).Nodup) := HI.out.twice M0.out rfl (List.mem_of_getElem? PD.out) (by rw [← YL.out, heq, XL.out])
              have hb : (yl == x.lsn) = true := by rw [heq]; exact beq_self_eq_true _
              clear heq
              go_wp2_with fail
              go_quiet (fail)
              go_wp2_with fail
              go_ret2
              exact ⟨9, none, 0, 0, [], [], rfl, .inr ⟨fun l hl => by obtain ⟨u, hu, rfl⟩ := List.mem_map.1 hl; exact HR.out u hu, .inr ⟨rfl, rfl, by rw [HFF.out]; exact TW.out⟩⟩, Told.nil _ _, below_drewN B2.out _⟩
            · have hb : (yl == x.lsn) = false := by rw [beq_eq_false_iff_ne]; exact heq
              have NE : Hid (∀ e, cs[cs.length - 1]? = some e → e.lsn ≠ c.lsn) := fun e he => by
                have h1 := SZ.out.2.1
                have h2 := PP.out
                rw [show cs.length - 1 = p by omega, PD.out] at he
                simp only [Option.some.injEq] at he
                subst he
                rw [← YL.out, ← XL.out]
                exact heq
              clear heq
              go_wp2_with fail
              go_quiet (fail)
              go_upto_region 17 with fail
              generalize hw3 : w2.drewN _ = w3
              have A3 : Hid (HeapAt w3 w.heap.size w.heap.size ha2 m hcap vs) := by rw [← hw3]; exact ⟨A2.out.top, A2.out.row, A2.out.len⟩
              have K3 : Keep (fun _ => False) w2 w3 := by rw [← hw3]; exact (Keep.refl _ _).drewN _
              have T3 := Lib.hid (T2.out.none K3)
              have B3 : Hid (Below w.heap.size w w3) := by rw [← hw3]; exact below_drewN B2.out _
              have hx3 := hx2.keep K3 (fun h => h)
              have R3 := Lib.hid (RD.out.below B3.out)
              clear hw3 A2 T2 B2 K3 hx2 c1 RD hy hb q1 q4 q5
              obtain ⟨x0, x1, x2, x3, x4, x5, x6, x7, x8, x9, x10, x11⟩ := hx3
              go_wp2_with fail
              refine (copied_any x c w3 R3.out CF.out).mono ?_
              rintro e w4 ⟨y, rfl, hk4, hy⟩
              have A4 := Lib.hid (A3.out.keep hk4 (fun h => h) (fun _ _ h => h))
              have T4 := Lib.hid (T3.out.none hk4)
              have B4 := Lib.hid (keep0_below B3.out hk4 B3.out.size)
              have HY := Lib.hid (hy.base B3.out.size)
              clear hk4 hy A3 T3 B3 R3 x0 x1 x2 x3 x4 x5 x6 x7 x8 x9 x10 x11
              have on1 : on ≤ 100000 := by have := SZ.out.1; omega
              go_wp2_with (at_builtin; refine wpList_append_src rfl _ _ 25 rfl w.heap.size 59 i0 (.agg #[.int .i64 0, .int .u64 0, .int .i64 0, .int .u64 0, .int .u64 0, .int .i64 0, .int .i64 0, .string ByteArray.empty, .string ByteArray.empty, .string ByteArray.empty, .slice none 0 0, .slice none 0 0]) 12 152 Try.underlying25 hi0 hz0 hz1 hz2 rfl (by decide) (.slice (some ⟨og, 0, none⟩) on oc) on (allcells xs) rfl ?_ (some ⟨w4.heap.size, 0, none⟩) 1 1 y.cells rfl ?_ (by unfold maxLen; omega) (by omega) ?_ ?_)
              · exact T4.out.row.alloc _
              · exact src_new w4 59 12 y.cells rfl y.one
              · have := B4.out.size; simp; omega
              intro v' w5 hown hgrow hne
              obtain ⟨oa5, oc5, rfl⟩ := owns_shape hown
              rw [← allcells_snoc] at hown
              have K5 : Keep (fun j => (Value.slice (some ⟨og, 0, none⟩) on oc).ownBlock = some j) w4 w5 := ((Keep.refl _ w4).alloc _).grown hgrow (fun j hj => .inl hj)
              have T5 := Lib.hid (T4.out.snoc HY.out K5 hown)
              have A5 := Lib.hid (A4.out.keep K5 (fun e => owns_ne T4.out.row A4.out.top (by decide) e rfl) (fun b hb e => by
                obtain ⟨cur1, hc1⟩ := owns_cells T4.out.row e
                obtain ⟨cur2, hc2⟩ := owns_cells A4.out.row hb
                rw [hc1] at hc2
                simp at hc2))
              have B5 : Hid (Below w.heap.size w w5) := B4.out.trans (K5.below B4.out.size (fun b hb e => by have := (T4.out.row.lt b e).1; omega))
              have LN5 : Hid ((cs ++ [c]).length = on + 1) := by have := SZ.out.2.1; exact Lib.hid (by simp; omega)
              clear hown hgrow hne K5 T4 A4 B4 HY
              rcases (by omega : un = 1 ∨ 1 < un) with u1 | u1
              · subst u1
                have IN : Hid (Inv w FF vs (cs ++ [c])) := HI.out.next (tl := []) P2.out MIN.out rfl NE.out (by simp) (by have := UL.out; symm; exact List.eq_nil_of_length_eq_zero (by omega)) (fun u hu => by simp at hu)
                go_wp2_with fail
                go_roundw
                case rel => exact ⟨oa5, on + 1, oc5, cs ++ [c], _, ha2, m, hcap, vs, rfl, A5.out, O2.out, IN.out, T5.out, B5.out⟩
                case measure => simp [lenOf]; have := SZ.out.2.2; omega
              · obtain ⟨q, hq⟩ : ∃ q, un = q + 1 + 1 := ⟨un - 2, by omega⟩
                have TL : Hid ((⟨some ⟨g, off + 12, none⟩, un - 1, uc - 1, r⟩ : Lg).Ok w ∧ Rising r) := by
                  have h1 := UK.out.1.recs
                  simp only at h1
                  refine ⟨⟨?_, by simp only; omega, by simp only; omega, by simp only; omega⟩, UK.out.2.tail⟩
                  simp only
                  rw [show un = (un - 1) + 1 by omega] at h1
                  exact h1.rest
                have Q := Lib.hid hq
                clear hq
                go_wp2_with fail
                refine (push_any w w.heap.size w.heap.size ha2 m hcap vs ⟨some ⟨g, off + 12, none⟩, un - 1, uc - 1, r⟩ w5 A5.out O2.out (fun u hu => ?_) B5.out (Nat.le_refl _) (Nat.le_refl _) B5.out.size (by have := SZ.out.1; omega)).mono ?_
                · rcases List.mem_append.1 hu with hu | hu
                  · exact (HI.out.ok u (P2.out.subset (List.mem_cons_of_mem _ hu))).1
                  · rw [List.mem_singleton] at hu; subst hu; exact TL.out.1
                rintro e w6 ⟨ha6, hcap6, vs6, rfl, hA6, hO6, hP6, hK6, hB6⟩
                have A6 := Lib.hid hA6
                have O6 := Lib.hid hO6
                have T6 := Lib.hid (T5.out.keep hK6 (fun b cur T hc hT _ => heapish_ne A5.out.top hc (by rcases hT with rfl | rfl | rfl <;> decide) (by rcases hT with rfl | rfl | rfl <;> decide)))
                have B6 := Lib.hid hB6
                have IN : Hid (Inv w FF vs6 (cs ++ [c])) := HI.out.next (tl := [⟨some ⟨g, off + 12, none⟩, un - 1, uc - 1, r⟩]) P2.out MIN.out rfl NE.out (hP6.trans (List.perm_append_comm)) (by simp) (fun u hu => by rw [List.mem_singleton] at hu; subst hu; exact TL.out)
                clear hA6 hO6 hP6 hK6 hB6
                go_wp2_with fail
                go_roundw
                case rel => exact ⟨oa5, on + 1, oc5, cs ++ [c], _, ha6, m + 1, hcap6, vs6, rfl, A6.out, O6.out, IN.out, T6.out, B6.out⟩
                case measure => simp [lenOf]; have := SZ.out.2.2; omega

end Go.Proofs.Ythgkhhgabpebmaa
