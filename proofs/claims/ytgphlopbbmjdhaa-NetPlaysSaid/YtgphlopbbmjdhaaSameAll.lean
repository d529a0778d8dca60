/- 'SameAll' of the document's answer: of two lists of messages that say the same it says true. -/
import Derived.Test.YtgphlopbbmjdhaaEach
import Derived.StillTailTactics
import Derived.Deep.DeepCutAuto
namespace Go.Proofs.Ytgphlopbbmjdhaa
open Go.RowKit Go.Conc
set_option linter.unusedVariables false
set_option linter.unusedSimpArgs false

/-- A list of messages that may be read. -/
structure Msgs (w : World) (a : Option Addr) (n : Nat) (cs : List Cont) : Prop where
  len : cs.length = n
  get : ∀ (j : Nat) (c : Cont), cs[j]? = some c → ∃ g off x, a = some ⟨g, off, none⟩ ∧ MsgCells w g (off + j * 9) x ∧ Reads w x c

theorem Msgs.keep {w w' : World} {a : Option Addr} {n : Nat} {cs : List Cont} (h : Msgs w a n cs) (k : Keep (fun _ => False) w w') : Msgs w' a n cs :=
  ⟨h.len, fun j c hc => by
    obtain ⟨g, off, x, ha, hm, hr⟩ := h.get j c hc
    exact ⟨g, off, x, ha, hm.keep k (fun h => h), hr.keep k (fun _ _ h => h)⟩⟩

theorem Each.msgs {w : World} {base base' : Nat} {a : Option Addr} {n cap : Nat} {xs : List Qm} {cs : List Cont} (h : Each (Holds w base) xs cs) (hr : w.ownsRow base' 33 9 (.slice a n cap) n (allcells xs)) (hn : cs.length = n) : Msgs w a n cs :=
  ⟨hn, fun j c hc => by
    have hj : j < cs.length := (List.getElem?_eq_some_iff.1 hc).1
    have hj' : j < xs.length := by rw [h.len]; exact hj
    obtain ⟨g, ha, hm⟩ := owns_msg hr (List.getElem?_eq_getElem hj')
    exact ⟨g, 0, _, ha, hm, (h.get j _ c (List.getElem?_eq_getElem hj') hc).reads⟩⟩

set_option maxHeartbeats 1000000 in
set_option maxRecDepth 100000 in
theorem sameAll_yes (a b : Option Addr) (n ca cb : Nat) (cs : List Cont) (w : World) (ha : Msgs w a n cs) (hb : Msgs w b n cs) (hf : ∀ c ∈ cs, c.few) (hn : n ≤ 1000000) :
    Calls Try.prog 18 #[.slice a n ca, .slice b n cb] w fun e w' => e = .returned (.bool true) ∧ Keep (fun _ => False) w w' := by
  have HA := Lib.hid ha
  have HB := Lib.hid hb
  have HF := Lib.hid hf
  have HL := Lib.hid ha.len
  clear ha hb hf
  go_enter Try.func18, Try.ntmps18
  go_wp2_with fail
  go_loopw [5] (fun i wr => ∃ (j : Nat), j ≤ n ∧ i = .int .i64 j ∧ Keep (fun _ => False) w wr) (fun i _ => n - (intOf i).toNat)
  case atStart => exact ⟨0, Nat.zero_le _, rfl, Keep.refl _ _⟩
  case round =>
    obtain ⟨j, hj, rfl, hK⟩ := hrel
    rcases (by omega : j < n ∨ n ≤ j) with hlt | hge
    · have K := Lib.hid hK
      clear hK
      obtain ⟨c, hc⟩ : ∃ c, cs[j]? = some c := ⟨_, List.getElem?_eq_getElem (by rw [HL.out]; exact hlt)⟩
      obtain ⟨g, off, x, rfl, hm, hr⟩ := (HA.out.keep K.out).get j c hc
      obtain ⟨g', off', x', rfl, hm', hr'⟩ := (HB.out.keep K.out).get j c hc
      have HC := Lib.hid (HF.out _ (List.mem_of_getElem? hc))
      have R := Lib.hid hr
      have R' := Lib.hid hr'
      clear hc hr hr'
      obtain ⟨c0, c1, c2, c3, c4, c5, c6, c7, c8⟩ := hm
      obtain ⟨d0, d1, d2, d3, d4, d5, d6, d7, d8⟩ := hm'
      go_wp2_with fail
      go_still_tail 8, (by kernel_rfl)
      change wpList _ _ _ _ _ wr.drew
      have K1 := Lib.hid (K.out.trans (Keep.refl (fun _ => False) wr).drew (fun _ h => .inl h))
      have R1 := Lib.hid (R.out.keep (Keep.refl (fun _ => False) wr).drew (fun _ _ h => h))
      have R2 := Lib.hid (R'.out.keep (Keep.refl (fun _ => False) wr).drew (fun _ _ h => h))
      clear K R R' c0 c1 c2 c3 c4 c5 c6 c7 c8 d0 d1 d2 d3 d4 d5 d6 d7 d8
      generalize wr.drew = w5 at K1 R1 R2 ⊢
      go_wp2_with fail
      refine (same_reads x x' _ _ R1.out R2.out HC.out).mono ?_
      rintro e w6 ⟨rfl, hk⟩
      have K2 := Lib.hid (K1.out.none_trans hk)
      clear hk
      go_wp2_with fail
      go_roundw
      case rel => exact ⟨j + 1, by omega, by go_num, K2.out⟩
      case measure => simp [intOf]; omega
    · go_wp2_with fail
      go_ret
      exact ⟨rfl, hK⟩

end Go.Proofs.Ytgphlopbbmjdhaa
