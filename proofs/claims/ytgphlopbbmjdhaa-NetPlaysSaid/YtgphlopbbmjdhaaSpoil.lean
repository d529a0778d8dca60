/- 'spoil' of the laws: a message's own lists are written over, and nothing else. -/
import Derived.Test.YtgphlopbbmjdhaaDeep
import Derived.Deep.QuietTactic
import Derived.BigQuiet
import Derived.Deep.DeepCutAuto
namespace Go.Proofs.Ytgphlopbbmjdhaa
open Go.RowKit Go.Conc
set_option linter.unusedVariables false
set_option linter.unusedSimpArgs false

/-- A list that may be written over: its block, whatever it holds. -/
def Mine2 (w : World) (a : Option Addr) (n size : Nat) (e : TypeId) : Prop :=
  n = 0 ∨ ∃ g vs, a = some ⟨g, 0, none⟩ ∧ Blk w g e vs ∧ n * size ≤ vs.length

theorem owns_mine {w : World} {base size n c : Nat} {e : TypeId} {a : Option Addr} {xs : List Value} (h : w.ownsRow base e size (.slice a n c) n xs) : Mine2 w a n size e := by
  rcases h.2 with ⟨_, hn⟩ | ⟨g, cap, cur, hv, _, hg, h1, _, h2, _⟩
  · exact .inl hn
  · simp only [Value.slice.injEq, true_and] at hv
    obtain ⟨rfl, rfl⟩ := hv
    exact .inr ⟨g, cur.toList, rfl, by simpa [Blk] using hg, by simp [h2]; exact Nat.mul_le_mul_right _ h1⟩

theorem Mine2.keep {S : Nat → Prop} {w w' : World} {a : Option Addr} {n size : Nat} {e : TypeId} (h : Mine2 w a n size e) (k : Keep S w w') (hS : ∀ ad, a = some ad → n ≠ 0 → ¬ S ad.block) : Mine2 w' a n size e := by
  by_cases hn : n = 0
  · exact .inl hn
  rcases h with h | ⟨g, vs, ha, hg, hs⟩
  · exact .inl h
  · exact .inr ⟨g, vs, ha, hg.keep k (hS _ ha hn), hs⟩

/-- Blocks of cells stay blocks of as many cells. -/
def Shape (w w' : World) : Prop := ∀ b T vs, Blk w b T vs → ∃ vs', Blk w' b T vs' ∧ vs'.length = vs.length

theorem Shape.refl (w : World) : Shape w w := fun b T vs h => ⟨vs, h, rfl⟩
theorem Shape.trans {a b c : World} (h : Shape a b) (k : Shape b c) : Shape a c := fun g T vs hv => by
  obtain ⟨v1, h1, e1⟩ := h g T vs hv
  obtain ⟨v2, h2, e2⟩ := k g T v1 h1
  exact ⟨v2, h2, e2.trans e1⟩
theorem Shape.keep {w w' : World} (k : Keep (fun _ => False) w w') : Shape w w' := fun b T vs h => ⟨vs, h.keep k (fun h => h), rfl⟩
theorem Shape.setCell (w : World) (g o : Nat) (u : Value) : Shape w (w.setCell ⟨g, o, none⟩ u) := fun b T vs h => by
  by_cases e : b = g
  · subst e; exact ⟨_, h.set o u, by simp⟩
  · exact ⟨vs, h.keep (Keep.setCell (Keep.refl (fun k => k = g) w) (p := ⟨g, o, none⟩) (.inl rfl) u) e, rfl⟩
theorem Mine2.shape {w w' : World} {a : Option Addr} {n size : Nat} {e : TypeId} (h : Mine2 w a n size e) (k : Shape w w') : Mine2 w' a n size e := by
  rcases h with h | ⟨g, vs, ha, hg, hs⟩
  · exact .inl h
  · obtain ⟨v2, h2, e2⟩ := k _ _ _ hg
    exact .inr ⟨g, v2, ha, h2, by omega⟩

def Spot (m : Option Addr) (n b : Nat) : Prop := ∃ a, m = some a ∧ n ≠ 0 ∧ b = a.block

set_option maxHeartbeats 2000000 in
set_option maxRecDepth 100000 in
theorem spoil_shape (m : Qm) (w : World) (hw : Mine2 w m.wa m.wl 2 67) (hp : Mine2 w m.pa m.pl 1 3) (hwl : m.wl ≤ 1000) (hpl : m.pl ≤ 1000) :
    Calls Try.prog 28 #[.agg #[.int .i64 m.kind, .int .i64 m.txn, .int .i64 m.page, .int .i64 m.dst, .bool m.fast, .int .u64 m.lsn, .slice m.wa m.wl m.wc, .slice m.pa m.pl m.pc, .string m.body]] w fun e w' =>
      e = .returned (.tuple #[]) ∧ Keep (fun b => Spot m.wa m.wl b ∨ Spot m.pa m.pl b) w w' ∧ Shape w w' := by
  obtain ⟨mk, mt, mp, md, mf, ml, wa, wl, wc, pa, pl, pc, mb⟩ := m
  simp only at hw hp hwl hpl ⊢
  have HW : Hid (Mine2 (w.alloc (.cells #[.int .i64 mk, .int .i64 mt, .int .i64 mp, .int .i64 md, .bool mf, .int .u64 ml, .slice wa wl wc, .slice pa pl pc, .string mb] 33)) wa wl 2 67) := hw.keep ((Keep.refl (fun _ => False) _).alloc _) (fun _ _ _ h => h)
  have HP : Hid (Mine2 (w.alloc (.cells #[.int .i64 mk, .int .i64 mt, .int .i64 mp, .int .i64 md, .bool mf, .int .u64 ml, .slice wa wl wc, .slice pa pl pc, .string mb] 33)) pa pl 1 3) := hp.keep ((Keep.refl (fun _ => False) _).alloc _) (fun _ _ _ h => h)
  have HB : Hid (Blk (w.alloc (.cells #[.int .i64 mk, .int .i64 mt, .int .i64 mp, .int .i64 md, .bool mf, .int .u64 ml, .slice wa wl wc, .slice pa pl pc, .string mb] 33)) w.heap.size 33 [.int .i64 mk, .int .i64 mt, .int .i64 mp, .int .i64 md, .bool mf, .int .u64 ml, .slice wa wl wc, .slice pa pl pc, .string mb]) := heap_alloc_new _ _
  have HK : Hid (Keep (fun b => Spot wa wl b ∨ Spot pa pl b) w (w.alloc (.cells #[.int .i64 mk, .int .i64 mt, .int .i64 mp, .int .i64 md, .bool mf, .int .u64 ml, .slice wa wl wc, .slice pa pl pc, .string mb] 33))) := (Keep.refl _ _).alloc _
  have HSH : Hid (Shape w (w.alloc (.cells #[.int .i64 mk, .int .i64 mt, .int .i64 mp, .int .i64 md, .bool mf, .int .u64 ml, .slice wa wl wc, .slice pa pl pc, .string mb] 33))) := Shape.keep ((Keep.refl _ _).alloc _)
  clear hw hp
  go_enter Try.func28, Try.ntmps28
  go_wp2_with fail
  go_loopw [2] (fun i wz => ∃ (k : Nat), k ≤ wl ∧ i = .int .i64 k ∧ Mine2 wz wa wl 2 67 ∧ Mine2 wz pa pl 1 3 ∧ Blk wz w.heap.size 33 [.int .i64 mk, .int .i64 mt, .int .i64 mp, .int .i64 md, .bool mf, .int .u64 ml, .slice wa wl wc, .slice pa pl pc, .string mb] ∧ Keep (fun b => Spot wa wl b ∨ Spot pa pl b) w wz ∧ Shape w wz) (fun i _ => wl - (intOf i).toNat)
  case atStart => exact ⟨0, Nat.zero_le _, rfl, HW.out, HP.out, HB.out, HK.out, HSH.out⟩
  case round =>
    clear HW HP HB HK HSH
    obtain ⟨k, hk, rfl, hW, hP, hB, hK, hSh⟩ := hrel
    have HSH := Lib.hid hSh
    clear hSh
    have c6 := hB.at (i := 6) rfl
    have c7 := hB.at (i := 7) rfl
    have HB := Lib.hid hB
    have HP := Lib.hid hP
    have HK := Lib.hid hK
    clear hB hP hK
    rcases (by omega : k < wl ∨ wl ≤ k) with hlt | hge
    · rcases hW with h | ⟨g, vs, rfl, hg, hs⟩
      · omega
      · obtain ⟨u0, e0⟩ : ∃ u, vs[k * 2]? = some u := ⟨_, List.getElem?_eq_getElem (by omega)⟩
        obtain ⟨u1, e1⟩ : ∃ u, vs[k * 2 + 1]? = some u := ⟨_, List.getElem?_eq_getElem (by omega)⟩
        have d0 := hg.at e0
        have d1 := hg.at e1
        have fr := hg.free
        have HG := Lib.hid hg
        have HS := Lib.hid hs
        have ne : g ≠ w.heap.size := ne_of_type hg HB.out (by decide)
        have ne' : w.heap.size ≠ g := Ne.symm ne
        have NE := Lib.hid ne
        clear hg hs e0 e1
        go_wp2_with fail
        have KE : ∀ (W : World) (o : Nat) (u : Value), Keep (fun k => k = g) W (W.setCell ⟨g, o, none⟩ u) := fun W o u => Keep.setCell (Keep.refl (fun k => k = g) W) (p := ⟨g, o, none⟩) (.inl rfl) u
        have K1 := (KE wr (k * 2) (.string ⟨#[115, 112, 111, 105, 108, 116]⟩)).trans (KE _ (k * 2 + 1) (.int .i64 0)) (fun _ h => .inl h)
        have B1 := (HG.out.set (k * 2) (.string ⟨#[115, 112, 111, 105, 108, 116]⟩)).set (k * 2 + 1) (.int .i64 0)
        have P1 := HP.out.keep K1 (fun ad ha hn e => by
          rcases HP.out with h | ⟨g2, v2, ha2, hg2, _⟩
          · exact hn h
          · rw [ha] at ha2
            simp only [Option.some.injEq] at ha2
            subst ha2
            exact ne_of_type hg2 HG.out (by decide) e)
        have BM := HB.out.keep K1 (fun e => NE.out e.symm)
        have KK := HK.out.trans K1 (fun i e => .inl (.inl ⟨_, rfl, by omega, e⟩))
        go_roundw
        case rel => exact ⟨k + 1, by omega, by go_num, .inr ⟨g, _, rfl, B1, by have := HS.out; simp; omega⟩, P1, BM, KK, (HSH.out.trans (Shape.setCell _ _ _ _)).trans (Shape.setCell _ _ _ _)⟩
        case measure => simp [intOf]; omega
    · clear hW
      go_wp2_with fail
      go_loopw [3] (fun i wy => ∃ (k : Nat), k ≤ pl ∧ i = .int .i64 k ∧ Mine2 wy pa pl 1 3 ∧ Blk wy w.heap.size 33 [.int .i64 mk, .int .i64 mt, .int .i64 mp, .int .i64 md, .bool mf, .int .u64 ml, .slice wa wl wc, .slice pa pl pc, .string mb] ∧ Keep (fun b => Spot wa wl b ∨ Spot pa pl b) w wy ∧ Shape w wy) (fun i _ => pl - (intOf i).toNat)
      case atStart => exact ⟨0, Nat.zero_le _, rfl, HP.out, HB.out, HK.out, HSH.out⟩
      case round =>
        clear HP HB HK HSH c6 c7
        obtain ⟨k', hk', rfl, hP, hB, hK, hSh⟩ := hrel
        have HSH := Lib.hid hSh
        clear hSh
        have c7 := hB.at (i := 7) rfl
        have HB := Lib.hid hB
        have HK := Lib.hid hK
        clear hB hK
        rcases (by omega : k' < pl ∨ pl ≤ k') with hlt' | hge'
        · rcases hP with h | ⟨g, vs, rfl, hg, hs⟩
          · omega
          · obtain ⟨u0, e0⟩ : ∃ u, vs[k']? = some u := ⟨_, List.getElem?_eq_getElem (by omega)⟩
            have d0 := hg.at e0
            have fr := hg.free
            have HG := Lib.hid hg
            have HS := Lib.hid hs
            have ne : g ≠ w.heap.size := ne_of_type hg HB.out (by decide)
            have ne' : w.heap.size ≠ g := Ne.symm ne
            have NE := Lib.hid ne
            clear hg hs e0
            go_wp2_with fail
            have K1 : Keep (fun k => k = g) wr (wr.setCell ⟨g, k', none⟩ (.int .i64 (-7))) := Keep.setCell (Keep.refl (fun k => k = g) wr) (p := ⟨g, k', none⟩) (.inl rfl) _
            have B1 := HG.out.set k' (.int .i64 (-7))
            have BM := HB.out.keep K1 (fun e => NE.out e.symm)
            have KK := HK.out.trans K1 (fun i e => .inl (.inr ⟨_, rfl, by omega, e⟩))
            go_roundw
            case rel => exact ⟨k' + 1, by omega, by go_num, .inr ⟨g, _, rfl, B1, by have := HS.out; simp; omega⟩, BM, KK, HSH.out.trans (Shape.setCell _ _ _ _)⟩
            case measure => simp [intOf]; omega
        · go_wp2_with fail
          exact bodyPost_end (v := .tuple #[]) (by simp [results, Try.results28, go_sem]) rfl ⟨rfl, HK.out, HSH.out⟩

theorem spoil_any (m : Qm) (w : World) (hw : Mine2 w m.wa m.wl 2 67) (hp : Mine2 w m.pa m.pl 1 3) (hwl : m.wl ≤ 1000) (hpl : m.pl ≤ 1000) :
    Calls Try.prog 28 #[.agg #[.int .i64 m.kind, .int .i64 m.txn, .int .i64 m.page, .int .i64 m.dst, .bool m.fast, .int .u64 m.lsn, .slice m.wa m.wl m.wc, .slice m.pa m.pl m.pc, .string m.body]] w fun e w' =>
      e = .returned (.tuple #[]) ∧ Keep (fun b => Spot m.wa m.wl b ∨ Spot m.pa m.pl b) w w' :=
  (spoil_shape m w hw hp hwl hpl).mono fun _ _ ⟨h1, h2, _⟩ => ⟨h1, h2⟩

end Go.Proofs.Ytgphlopbbmjdhaa
