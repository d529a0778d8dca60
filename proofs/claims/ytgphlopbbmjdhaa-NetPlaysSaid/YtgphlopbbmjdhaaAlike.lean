/- 'alike' of NetPlays: where the two nets hold the same it says true. -/
import Derived.Test.YtgphlopbbmjdhaaState2
namespace Go.Proofs.Ytgphlopbbmjdhaa
open Go.RowKit Go.Conc
set_option linter.unusedVariables false
set_option linter.unusedSimpArgs false

theorem State.len_sel {w : World} {base : Nat} {L : Lay} {q : Nat → List Qm} {ps : List Pc} (h : State w base L q ps) (f t : Int) :
    Calls Try.prog 12 #[.pointer (some ⟨L.b, 0, none⟩), .int .i64 f, .int .i64 t] w fun e w' => e = .returned (.int .i64 ((sel f t (ps.map Prod.fst)).length : Nat)) ∧ w = w' := by
  rw [← selP_fst, List.length_map]
  rcases hr : rowIx L.n f t with _ | i
  · have e : selP f t ps = [] := selP_none fun p hp hh => by
      obtain ⟨i, hi⟩ := h.valid p hp
      rw [hh.1, hh.2, hr] at hi
      simp at hi
    rw [e]
    exact len_none L q f t w h.net hr
  · have hl := (h.rows f t i hr).len
    rw [List.length_map] at hl
    rw [← hl]
    exact len_some L q f t i w h.net hr

set_option maxHeartbeats 2000000 in
set_option maxRecDepth 100000 in
theorem alike_yes (L : Lay) (q : Nat → List Qm) (ps : List Pc) (base base' : Nat) (a : Option Addr) (len cap : Nat) (w : World) (h : State w base L q ps) (hR : RefAt w base' a len cap (ps.map Prod.fst)) (hlen : len ≤ 1000000) :
    Calls Try.prog 24 #[.pointer (some ⟨L.b, 0, none⟩), .agg #[.int .i64 L.n, .slice a len cap]] w fun e w' => e = .returned (.bool true) ∧ Keep (fun _ => False) w w' := by
  have HS := Lib.hid h
  have HR := Lib.hid hR
  have hn := h.net.pos.2
  have hsum : sumTo q L.n L.n = len := by rw [h.sum, ← hR.len, List.length_map]
  have HX := Lib.hid hsum
  have B0 : Hid (Blk (w.alloc (.cells #[.int .i64 L.n, .slice a len cap] 54)) w.heap.size 54 [.int .i64 L.n, .slice a len cap]) := heap_alloc_new _ _
  have K0 : Hid (Keep (fun _ => False) w (w.alloc (.cells #[.int .i64 L.n, .slice a len cap] 54))) := (Keep.refl _ _).alloc _
  clear h hR hsum
  go_enter Try.func24, Try.ntmps24
  go_wp2_with fail
  have t1 := B0.out.at (i := 1) rfl
  have S0 : Hid (State (w.alloc (.cells #[.int .i64 L.n, .slice a len cap] 54)).drew base L q ps) := HS.out.keep K0.out.drew (fun _ _ h => h)
  go_region_held3 (fun w' => w'.cell? ⟨w.heap.size, 1, none⟩ = some (.slice a len cap))
    (first | go_keep | (trace_state; fail))
    (first
      | (go_at_call 14
         refine (sum_any L q _ S0.out.net).mono ?_
         rintro e w2 ⟨rfl, d, hd⟩
         have KD : Keep (fun _ => False) (w.alloc (.cells #[.int .i64 L.n, .slice a len cap] 54)) w2 := by subst hd; exact ((Keep.refl (fun _ => False) _).drew).drewN d
         have t1' := KD.got t1 (fun h => h)
         clear hd))
  rw [HX.out]
  have K2 := K0.out.none_trans KD
  have B2 := B0.out.keep KD (fun h => h)
  clear S0 KD t1 t1' K0 B0
  go_wp2_with fail
  simp only [bne_self_eq_false]
  go_loopw [5] (fun i wr => ∃ (v : Int), -1 ≤ v ∧ v ≤ L.n + 2 ∧ i = .int .i64 v ∧ Keep (fun _ => False) w wr ∧ Blk wr w.heap.size 54 [.int .i64 L.n, .slice a len cap]) (fun i _ => ((L.n : Int) + 3 - intOf i).toNat)
  case atStart => exact ⟨-1, by omega, by omega, rfl, K2, B2⟩
  case round =>
    clear K2 B2
    obtain ⟨v, hv1, hv2, rfl, hK, hB⟩ := hrel
    have t0 := hB.at (i := 0) rfl
    have t1 := hB.at (i := 1) rfl
    have K := Lib.hid hK
    have B := Lib.hid hB
    clear hK hB
    rcases (by omega : v ≤ (L.n : Int) + 1 ∨ (L.n : Int) + 1 < v) with hlt | hge
    · go_wp2_with fail
      have KC : Keep (fun _ => False) w wr.drew := K.out.drew
      have BC : Blk wr.drew w.heap.size 54 [.int .i64 L.n, .slice a len cap] := B.out
      go_region_held3 (fun w' => w'.cell? ⟨w.heap.size, 0, none⟩ = some (.int .i64 L.n) ∧ w'.cell? ⟨w.heap.size, 1, none⟩ = some (.slice a len cap))
        (first | go_keep | (trace_state; fail))
        (first
          | (go_at_call 12
             refine ((State.keep HS.out ?_ (fun _ _ h => h)).len_sel _ _).mono ?_
             · assumption
             rintro e w' ⟨rfl, rfl⟩)
          | (go_at_call 31
             refine (refPeek_any L.n a len cap base' (ps.map Prod.fst) _ _ _ (RefAt.keep HR.out ?_ (fun _ _ h => h)) hlen).mono ?_
             · assumption
             rintro e w3 ⟨pa, pc, rfl, _, hk3⟩
             replace KC := KC.none_trans hk3
             replace BC := BC.keep hk3 (fun h => h)
             clear hk3
             have s0 := BC.at (i := 0) rfl
             have s1 := BC.at (i := 1) rfl))
      have K4 := Lib.hid KC
      have B4 := Lib.hid BC
      clear KC BC s0 s1 t0 t1
      go_wp2_with fail
      go_roundw
      case rel => exact ⟨v + 1, by omega, by omega, by go_num, K4.out, B4.out⟩
      case measure => simp [intOf]; omega
    · go_wp2_with fail
      go_ret
      exact ⟨rfl, K.out⟩

end Go.Proofs.Ytgphlopbbmjdhaa
