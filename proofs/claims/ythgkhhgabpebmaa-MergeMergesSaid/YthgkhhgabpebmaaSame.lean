/- 'Same' and 'SameRecords' of the document's answers: of what says the same they say true. -/
import Derived.Test.YthgkhhgabpebmaaCopy
import Derived.StillTailTactics
namespace Go.Proofs.Ythgkhhgabpebmaa
open Go.RowKit
set_option linter.unusedVariables false
set_option linter.unusedSimpArgs false

theorem Src.txn {w : World} {a : Option Addr} {m c : Nat} {ts : List (Int × Int × Int)} (h : Src w a m c 3 (tcells ts)) {i : Nat} (hi : i < m) :
    ∃ g off p, a = some ⟨g, off, none⟩ ∧ ts[i]? = some p ∧ w.cell? ⟨g, off + i * 3, none⟩ = some (.int .i64 p.1) ∧ w.cell? ⟨g, off + i * 3 + 1, none⟩ = some (.int .i64 p.2.1) ∧ w.cell? ⟨g, off + i * 3 + 2, none⟩ = some (.int .u64 p.2.2) := by
  obtain ⟨g, off, rfl, hc⟩ := h.plain (by omega) (by omega)
  have hl := h.length
  rw [tcells_length] at hl
  have hi' : i < ts.length := by omega
  obtain ⟨h0, h1, h2⟩ := tcells_at ts i ts[i] (List.getElem?_eq_getElem hi')
  exact ⟨g, off, ts[i], rfl, List.getElem?_eq_getElem hi', hc _ _ h0, by rw [Nat.add_assoc]; exact hc _ _ h1, by rw [Nat.add_assoc]; exact hc _ _ h2⟩

theorem Src.dirty {w : World} {a : Option Addr} {m c : Nat} {ds : List (Int × Int)} (h : Src w a m c 2 (dcells ds)) {i : Nat} (hi : i < m) :
    ∃ g off p, a = some ⟨g, off, none⟩ ∧ ds[i]? = some p ∧ w.cell? ⟨g, off + i * 2, none⟩ = some (.int .i64 p.1) ∧ w.cell? ⟨g, off + i * 2 + 1, none⟩ = some (.int .u64 p.2) := by
  obtain ⟨g, off, rfl, hc⟩ := h.plain (by omega) (by omega)
  have hl := h.length
  rw [dcells_length] at hl
  have hi' : i < ds.length := by omega
  obtain ⟨h0, h1⟩ := dcells_at ds i ds[i] (List.getElem?_eq_getElem hi')
  exact ⟨g, off, ds[i], rfl, List.getElem?_eq_getElem hi', hc _ _ h0, by rw [Nat.add_assoc]; exact hc _ _ h1⟩

set_option maxHeartbeats 4000000 in
set_option maxRecDepth 100000 in
theorem same_yes (kd ls tx pv un pg ak : Int) (s1 s2 s3 : ByteArray) (ta tb da db : Option Addr) (tl tc td dl dc dd : Nat) (ts : List (Int × Int × Int)) (ds : List (Int × Int)) (w : World)
    (h1 : Src w ta tl tc 3 (tcells ts)) (h2 : Src w tb tl td 3 (tcells ts)) (h3 : Src w da dl dc 2 (dcells ds)) (h4 : Src w db dl dd 2 (dcells ds)) (htl : tl ≤ 1000) (hdl : dl ≤ 1000) :
    Calls Try.prog 34 #[.agg #[.int .i64 kd, .int .u64 ls, .int .i64 tx, .int .u64 pv, .int .u64 un, .int .i64 pg, .int .i64 ak, .string s1, .string s2, .string s3, .slice ta tl tc, .slice da dl dc], .agg #[.int .i64 kd, .int .u64 ls, .int .i64 tx, .int .u64 pv, .int .u64 un, .int .i64 pg, .int .i64 ak, .string s1, .string s2, .string s3, .slice tb tl td, .slice db dl dd]] w fun e w' => e = .returned (.bool true) ∧ Keep (fun _ => False) w w' := by
  have H1 := Lib.hid h1
  have H2 := Lib.hid h2
  have H3 := Lib.hid h3
  have H4 := Lib.hid h4
  clear h1 h2 h3 h4
  go_enter Try.func34, Try.ntmps34
  go_wp2_with fail
  have K0 : Hid (Keep (fun _ => False) w ((w.alloc (.cells #[.int .i64 kd, .int .u64 ls, .int .i64 tx, .int .u64 pv, .int .u64 un, .int .i64 pg, .int .i64 ak, .string s1, .string s2, .string s3, .slice ta tl tc, .slice da dl dc] 59)).alloc (.cells #[.int .i64 kd, .int .u64 ls, .int .i64 tx, .int .u64 pv, .int .u64 un, .int .i64 pg, .int .i64 ak, .string s1, .string s2, .string s3, .slice tb tl td, .slice db dl dd] 59))) := ((Keep.refl (fun _ => False) _).alloc _).alloc _
  go_loopw [5] (fun i wr => ∃ (j n : Nat), j ≤ tl ∧ i = .int .i64 j ∧ wr = ((w.alloc (.cells #[.int .i64 kd, .int .u64 ls, .int .i64 tx, .int .u64 pv, .int .u64 un, .int .i64 pg, .int .i64 ak, .string s1, .string s2, .string s3, .slice ta tl tc, .slice da dl dc] 59)).alloc (.cells #[.int .i64 kd, .int .u64 ls, .int .i64 tx, .int .u64 pv, .int .u64 un, .int .i64 pg, .int .i64 ak, .string s1, .string s2, .string s3, .slice tb tl td, .slice db dl dd] 59)).drewN n) (fun i _ => tl - (intOf i).toNat)
  case atStart => exact ⟨0, 0, Nat.zero_le _, rfl, rfl⟩
  case round =>
    obtain ⟨j, n, hj, rfl, rfl⟩ := hrel
    rcases (by omega : j < tl ∨ tl ≤ j) with hlt | hge
    · obtain ⟨g, off, ⟨p1, p2, p3⟩, rfl, hz, c0, c1, c2⟩ := ((H1.out.keep K0.out (fun _ _ _ h => h)).txn hlt)
      obtain ⟨g', off', ⟨q1, q2, q3⟩, rfl, hz', c0', c1', c2'⟩ := ((H2.out.keep K0.out (fun _ _ _ h => h)).txn hlt)
      rw [hz] at hz'
      simp only [Option.some.injEq, Prod.mk.injEq] at hz'
      obtain ⟨rfl, rfl, rfl⟩ := hz'
      clear hz
      simp only at c0 c1 c2 c0' c1' c2'
      go_wp2_with fail
      go_quiet (fail)
      go_wp2_with fail
      go_roundw
      case rel => exact ⟨j + 1, _, by omega, by go_num, rfl⟩
      case measure => simp [intOf]; omega
    · go_wp2_with fail
      go_loopw [6] (fun i wr => ∃ (j n : Nat), j ≤ dl ∧ i = .int .i64 j ∧ wr = ((w.alloc (.cells #[.int .i64 kd, .int .u64 ls, .int .i64 tx, .int .u64 pv, .int .u64 un, .int .i64 pg, .int .i64 ak, .string s1, .string s2, .string s3, .slice ta tl tc, .slice da dl dc] 59)).alloc (.cells #[.int .i64 kd, .int .u64 ls, .int .i64 tx, .int .u64 pv, .int .u64 un, .int .i64 pg, .int .i64 ak, .string s1, .string s2, .string s3, .slice tb tl td, .slice db dl dd] 59)).drewN n) (fun i _ => dl - (intOf i).toNat)
      case atStart => exact ⟨0, n, Nat.zero_le _, rfl, rfl⟩
      case round =>
        obtain ⟨j', n', hj', rfl, rfl⟩ := hrel
        rcases (by omega : j' < dl ∨ dl ≤ j') with hlt' | hge'
        · obtain ⟨g, off, ⟨p1, p2⟩, rfl, hz, c0, c1⟩ := ((H3.out.keep K0.out (fun _ _ _ h => h)).dirty hlt')
          obtain ⟨g', off', ⟨q1, q2⟩, rfl, hz', c0', c1'⟩ := ((H4.out.keep K0.out (fun _ _ _ h => h)).dirty hlt')
          rw [hz] at hz'
          simp only [Option.some.injEq, Prod.mk.injEq] at hz'
          obtain ⟨rfl, rfl⟩ := hz'
          clear hz
          simp only at c0 c1 c0' c1'
          go_wp2_with fail
          go_quiet (fail)
          go_wp2_with fail
          go_roundw
          case rel => exact ⟨j' + 1, _, by omega, by go_num, rfl⟩
          case measure => simp [intOf]; omega
        · go_wp2_with fail
          go_ret
          exact ⟨rfl, (((Keep.refl _ _).alloc _).alloc _).drewN _⟩

theorem same_reads (x y : Rq) (c : RC) (w : World) (hx : Reads w x c) (hy : Reads w y c) (hf : c.few) :
    Calls Try.prog 34 #[.agg #[.int .i64 x.kind, .int .u64 x.lsn, .int .i64 x.txn, .int .u64 x.prev, .int .u64 x.undo, .int .i64 x.page, .int .i64 x.ak, .string x.akey, .string x.aold, .string x.anew, .slice x.ta x.tl x.tc, .slice x.da x.dl x.dc], .agg #[.int .i64 y.kind, .int .u64 y.lsn, .int .i64 y.txn, .int .u64 y.prev, .int .u64 y.undo, .int .i64 y.page, .int .i64 y.ak, .string y.akey, .string y.aold, .string y.anew, .slice y.ta y.tl y.tc, .slice y.da y.dl y.dc]] w fun e w' => e = .returned (.bool true) ∧ Keep (fun _ => False) w w' := by
  have ex := hx.len
  have ey := hy.len
  obtain ⟨⟨a1, a2, a3, a4, a5, a6, a7, a8, a9, a10⟩, hw, hp⟩ := hx
  obtain ⟨⟨b1, b2, b3, b4, b5, b6, b7, b8, b9, b10⟩, hw', hp'⟩ := hy
  rw [a1, a2, a3, a4, a5, a6, a7, a8, a9, a10, b1, b2, b3, b4, b5, b6, b7, b8, b9, b10, ex.1, ex.2, ey.1, ey.2]
  rw [ex.1] at hw
  rw [ey.1] at hw'
  rw [ex.2] at hp
  rw [ey.2] at hp'
  exact same_yes _ _ _ _ _ _ _ _ _ _ _ _ _ _ _ _ _ _ _ _ _ _ w hw hw' hp hp' hf.1 hf.2

set_option maxHeartbeats 2000000 in
set_option maxRecDepth 100000 in
theorem sameRecords_yes (a b : Option Addr) (n ca cb : Nat) (cs : List RC) (w : World) (ha : Recs w a n cs) (hb : Recs w b n cs) (hf : ∀ c ∈ cs, c.few) (hn : n ≤ 1000000) :
    Calls Try.prog 11 #[.slice a n ca, .slice b n cb] w fun e w' => e = .returned (.bool true) ∧ Keep (fun _ => False) w w' := by
  have HA := Lib.hid ha
  have HB := Lib.hid hb
  have HF := Lib.hid hf
  clear ha hb hf
  go_enter Try.func11, Try.ntmps11
  go_wp2_with fail
  go_loopw [5] (fun i wr => ∃ (j : Nat), j ≤ n ∧ i = .int .i64 j ∧ Keep (fun _ => False) w wr) (fun i _ => n - (intOf i).toNat)
  case atStart => exact ⟨0, Nat.zero_le _, rfl, Keep.refl _ _⟩
  case round =>
    obtain ⟨j, hj, rfl, hK⟩ := hrel
    rcases (by omega : j < n ∨ n ≤ j) with hlt | hge
    · obtain ⟨c, hc⟩ : ∃ c, cs[j]? = some c := ⟨_, List.getElem?_eq_getElem (by rw [HA.out.len]; exact hlt)⟩
      obtain ⟨g, off, x, rfl, hx, hr⟩ := (HA.out.keep hK).get j c hc
      obtain ⟨g', off', y, rfl, hy, hs⟩ := (HB.out.keep hK).get j c hc
      have R1 := Lib.hid hr
      have R2 := Lib.hid hs
      have FC := Lib.hid (HF.out c (List.mem_of_getElem? hc))
      have K := Lib.hid hK
      obtain ⟨x0, x1, x2, x3, x4, x5, x6, x7, x8, x9, x10, x11⟩ := hx
      obtain ⟨y0, y1, y2, y3, y4, y5, y6, y7, y8, y9, y10, y11⟩ := hy
      clear hr hs hc hK
      go_wp2_with fail
      go_still_tail 8, (by kernel_rfl)
      change wpList _ _ _ _ _ wr.drew
      have K1 := Lib.hid (K.out.trans (Keep.refl (fun _ => False) wr).drew (fun _ h => .inl h))
      have R3 := Lib.hid (R1.out.keep (Keep.refl (fun _ => False) wr).drew (fun _ _ h => h))
      have R4 := Lib.hid (R2.out.keep (Keep.refl (fun _ => False) wr).drew (fun _ _ h => h))
      clear K R1 R2 x0 x1 x2 x3 x4 x5 x6 x7 x8 x9 x10 x11 y0 y1 y2 y3 y4 y5 y6 y7 y8 y9 y10 y11
      generalize wr.drew = w5 at K1 R3 R4 ⊢
      go_wp2_with fail
      refine (same_reads x y c _ R3.out R4.out FC.out).mono ?_
      rintro e w6 ⟨rfl, hk⟩
      have K2 := Lib.hid (K1.out.none_trans hk)
      clear hk
      go_wp2_with fail
      go_roundw
      case rel => exact ⟨j + 1, by omega, by go_num, K2.out⟩
      case measure => simp [intOf]; omega
    · go_wp2_with fail
      go_ret
      exact ⟨rfl, hK⟩

end Go.Proofs.Ythgkhhgabpebmaa
