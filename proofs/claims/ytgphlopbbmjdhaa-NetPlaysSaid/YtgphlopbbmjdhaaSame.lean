/- 'Same' of the document's answer: of two messages that hold the same it says true. -/
import Derived.Test.YtgphlopbbmjdhaaOpen
import Derived.Deep.QuietTactic
import Derived.BigQuiet
import Derived.Deep.DeepCutAuto
namespace Go.Proofs.Ytgphlopbbmjdhaa
open Go.RowKit Go.Conc
set_option linter.unusedVariables false
set_option linter.unusedSimpArgs false

/-- A list that has something stands at a plain place. -/
theorem Src.plain {w : World} {a : Option Addr} {m c size : Nat} {xs : List Value} (h : Src w a m c size xs) (hm : 0 < m) (hs : 0 < size) :
    ∃ g off, a = some ⟨g, off, none⟩ ∧ ∀ j u, xs[j]? = some u → w.cell? ⟨g, off + j, none⟩ = some u := by
  rcases h with ⟨_, rfl, _⟩ | ⟨ad, rfl, hl, hc, _⟩
  · omega
  · have hpos : 0 < xs.length := by rw [hl]; exact Nat.mul_pos hm hs
    obtain ⟨g, off, spot⟩ := ad
    have hspot : spot = none := by simpa [Addr.add] using World.cell?_spot (hc 0 _ (List.getElem?_eq_getElem hpos))
    subst hspot
    exact ⟨g, off, rfl, fun j u hu => by rw [← Go.WideShapes.add_plain]; exact hc j u hu⟩

theorem Src.want {w : World} {a : Option Addr} {m c : Nat} {ws : List (ByteArray × Int)} (h : Src w a m c 2 (wcells ws)) {i : Nat} (hi : i < m) :
    ∃ g off s z, a = some ⟨g, off, none⟩ ∧ ws[i]? = some (s, z) ∧ w.cell? ⟨g, off + i * 2, none⟩ = some (.string s) ∧ w.cell? ⟨g, off + i * 2 + 1, none⟩ = some (.int .i64 z) := by
  obtain ⟨g, off, rfl, hc⟩ := h.plain (by omega) (by omega)
  have hl := h.length
  rw [wcells_length] at hl
  have hi' : i < ws.length := by omega
  obtain ⟨h0, h1⟩ := wcells_at ws i hi'
  exact ⟨g, off, ws[i].1, ws[i].2, rfl, List.getElem?_eq_getElem hi', hc _ _ h0, by rw [Nat.add_assoc]; exact hc _ _ h1⟩

theorem Src.page {w : World} {a : Option Addr} {m c : Nat} {ps : List Int} (h : Src w a m c 1 (pcells ps)) {i : Nat} (hi : i < m) :
    ∃ g off z, a = some ⟨g, off, none⟩ ∧ ps[i]? = some z ∧ w.cell? ⟨g, off + i, none⟩ = some (.int .i64 z) := by
  obtain ⟨g, off, rfl, hc⟩ := h.plain (by omega) (by omega)
  have hl := h.length
  rw [pcells_length] at hl
  have hi' : i < ps.length := by omega
  exact ⟨g, off, ps[i], rfl, List.getElem?_eq_getElem hi', hc _ _ (by simp [pcells, List.getElem?_eq_getElem hi'])⟩

set_option maxHeartbeats 2000000 in
set_option maxRecDepth 100000 in
theorem same_yes (k t p d l : Int) (f : Bool) (body : ByteArray) (wa wb pa pb : Option Addr) (wl wc wd pl pc pd : Nat) (ws : List (ByteArray × Int)) (ps : List Int) (w : World)
    (h1 : Src w wa wl wc 2 (wcells ws)) (h2 : Src w wb wl wd 2 (wcells ws)) (h3 : Src w pa pl pc 1 (pcells ps)) (h4 : Src w pb pl pd 1 (pcells ps)) (hwl : wl ≤ 1000) (hpl : pl ≤ 1000) :
    Calls Try.prog 19 #[.agg #[.int .i64 k, .int .i64 t, .int .i64 p, .int .i64 d, .bool f, .int .u64 l, .slice wa wl wc, .slice pa pl pc, .string body],
      .agg #[.int .i64 k, .int .i64 t, .int .i64 p, .int .i64 d, .bool f, .int .u64 l, .slice wb wl wd, .slice pb pl pd, .string body]] w fun e w' =>
      e = .returned (.bool true) ∧ Keep (fun _ => False) w w' := by
  have H1 := Lib.hid h1
  have H2 := Lib.hid h2
  have H3 := Lib.hid h3
  have H4 := Lib.hid h4
  clear h1 h2 h3 h4
  go_enter Try.func19, Try.ntmps19
  go_wp2_with fail
  have K0 : Hid (Keep (fun _ => False) w ((w.alloc (.cells #[.int .i64 k, .int .i64 t, .int .i64 p, .int .i64 d, .bool f, .int .u64 l, .slice wa wl wc, .slice pa pl pc, .string body] 33)).alloc (.cells #[.int .i64 k, .int .i64 t, .int .i64 p, .int .i64 d, .bool f, .int .u64 l, .slice wb wl wd, .slice pb pl pd, .string body] 33))) := ((Keep.refl (fun _ => False) _).alloc _).alloc _
  go_loopw [5] (fun i wr => ∃ (j n : Nat), j ≤ wl ∧ i = .int .i64 j ∧ wr = ((w.alloc (.cells #[.int .i64 k, .int .i64 t, .int .i64 p, .int .i64 d, .bool f, .int .u64 l, .slice wa wl wc, .slice pa pl pc, .string body] 33)).alloc (.cells #[.int .i64 k, .int .i64 t, .int .i64 p, .int .i64 d, .bool f, .int .u64 l, .slice wb wl wd, .slice pb pl pd, .string body] 33)).drewN n) (fun i _ => wl - (intOf i).toNat)
  case atStart => exact ⟨0, 0, Nat.zero_le _, rfl, rfl⟩
  case round =>
    obtain ⟨j, n, hj, rfl, rfl⟩ := hrel
    rcases (by omega : j < wl ∨ wl ≤ j) with hlt | hge
    · obtain ⟨g, off, s, z, rfl, hz, c0, c1⟩ := ((H1.out.keep K0.out (fun _ _ _ h => h)).want hlt)
      obtain ⟨g', off', s', z', rfl, hz', c0', c1'⟩ := ((H2.out.keep K0.out (fun _ _ _ h => h)).want hlt)
      rw [hz] at hz'
      simp only [Option.some.injEq, Prod.mk.injEq] at hz'
      obtain ⟨rfl, rfl⟩ := hz'
      clear hz
      go_wp2_with fail
      go_quiet (fail)
      go_wp2_with fail
      go_roundw
      case rel => exact ⟨j + 1, _, by omega, by go_num, rfl⟩
      case measure => simp [intOf]; omega
    · go_wp2_with fail
      go_loopw [6] (fun i wr => ∃ (j n : Nat), j ≤ pl ∧ i = .int .i64 j ∧ wr = ((w.alloc (.cells #[.int .i64 k, .int .i64 t, .int .i64 p, .int .i64 d, .bool f, .int .u64 l, .slice wa wl wc, .slice pa pl pc, .string body] 33)).alloc (.cells #[.int .i64 k, .int .i64 t, .int .i64 p, .int .i64 d, .bool f, .int .u64 l, .slice wb wl wd, .slice pb pl pd, .string body] 33)).drewN n) (fun i _ => pl - (intOf i).toNat)
      case atStart => exact ⟨0, n, Nat.zero_le _, rfl, rfl⟩
      case round =>
        obtain ⟨j', n', hj', rfl, rfl⟩ := hrel
        rcases (by omega : j' < pl ∨ pl ≤ j') with hlt' | hge'
        · obtain ⟨g, off, z, rfl, hz, c0⟩ := ((H3.out.keep K0.out (fun _ _ _ h => h)).page hlt')
          obtain ⟨g', off', z', rfl, hz', c0'⟩ := ((H4.out.keep K0.out (fun _ _ _ h => h)).page hlt')
          rw [hz] at hz'
          simp only [Option.some.injEq] at hz'
          subst hz'
          clear hz
          go_wp2_with fail
          go_quiet (fail)
          go_wp2_with fail
          go_roundw
          case rel => exact ⟨j' + 1, _, by omega, by go_num, rfl⟩
          case measure => simp [intOf]; omega
        · go_wp2_with fail
          go_ret
          exact ⟨rfl, (((Keep.refl _ _).alloc _).alloc _).drewN _⟩

end Go.Proofs.Ytgphlopbbmjdhaa
