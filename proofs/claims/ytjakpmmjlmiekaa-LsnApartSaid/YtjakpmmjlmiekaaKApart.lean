/- The walk of the law LsnApart: it returns true, and writes nothing that was there. -/
import Derived.Test.YtjakpmmjlmiekaaMax
import Derived.Test.YtjakpmmjlmiekaaArgs
namespace Go.Proofs.Ytjakpmmjlmiekaa
open Go.RowKit
set_option linter.unusedVariables false
set_option linter.unusedSimpArgs false

/-- A slice of bools that came in: it is empty; or it leads to cells that hold them. -/
def ArgBits (w : World) (a : Option Addr) (len : Nat) (bs : Nat → Bool) : Prop :=
  len = 0 ∨ ∃ b off, a = some ⟨b, off, none⟩ ∧ b < w.heap.size ∧ ∀ j, j < len → w.cell? ⟨b, off + j, none⟩ = some (.bool (bs j))

theorem ArgBits.at {w wr : World} {a : Option Addr} {len : Nat} {bs : Nat → Bool} (h : ArgBits w a len bs) (hb : Below w.heap.size w wr) {k : Nat} (hk : k < len) :
    ∃ b off, a = some ⟨b, off, none⟩ ∧ b < w.heap.size ∧ wr.cell? ⟨b, off + k, none⟩ = some (.bool (bs k)) := by
  rcases h with h | ⟨b, off, rfl, hlt, hc⟩
  · omega
  · exact ⟨b, off, rfl, hlt, (hb.cell (p := ⟨b, off + k, none⟩) hlt).trans (hc k hk)⟩

theorem seeN_le (n x N : Int) (h : n ≤ N) (h' : x / 16 ≤ N) : seeN n x ≤ N := by
  unfold seeN; split <;> omega
theorem seeN_ge (n x : Int) : n ≤ seeN n x := by
  unfold seeN; split <;> omega

/-- Those that were told: of instance i with a count of at most c, or of instance k with one of at most d. -/
def Told (i k c d : Int) (ms : List Int) : Prop := ∀ y ∈ ms, (y % 16 = i ∧ y / 16 ≤ c) ∨ (y % 16 = k ∧ y / 16 ≤ d)

theorem Told.mono {i k c d c' d' : Int} {ms : List Int} (h : Told i k c d ms) (hc : c ≤ c') (hd : d ≤ d') : Told i k c' d' ms := fun y hy => by
  rcases h y hy with ⟨a, b⟩ | ⟨a, b⟩
  · exact .inl ⟨a, by omega⟩
  · exact .inr ⟨a, by omega⟩

theorem Told.snoc {i k c d x : Int} {ms : List Int} (h : Told i k c d ms) (hx : (x % 16 = i ∧ x / 16 ≤ c) ∨ (x % 16 = k ∧ x / 16 ≤ d)) : Told i k c d (ms ++ [x]) := fun y hy => by
  rcases List.mem_append.1 hy with hy | hy
  · exact h y hy
  · rw [List.mem_singleton] at hy; subst hy; exact hx

/-- What is owned reads cell by cell. -/
theorem owns_at {w : World} {base n : Nat} {e : TypeId} {v : Value} {ms : List Int} (h : w.ownsRow base e 1 v n (ms.map (Value.int .u64))) :
    ∃ a cap, v = .slice a n cap ∧ n = ms.length ∧ (∀ j, j < n → ∃ g, a = some ⟨g, 0, none⟩ ∧ base ≤ g ∧ w.cell? ⟨g, j, none⟩ = some (.int .u64 (ms.getD j 0))) := by
  have hn : n = ms.length := by have := h.1; simp at this; omega
  rcases h.2 with ⟨rfl, rfl⟩ | ⟨g, cap, cur, rfl, hb, hg, r⟩
  · exact ⟨none, 0, rfl, hn, fun j hj => absurd hj (Nat.not_lt_zero _)⟩
  · refine ⟨_, cap, rfl, hn, fun j hj => ⟨g, rfl, hb, ?_⟩⟩
    rw [World.ownsRow.cellAt (size := 1) h j (by omega), List.getElem?_map, List.getElem?_eq_getElem (by omega), List.getD_eq_getElem?_getD, List.getElem?_eq_getElem (by omega)]
    rfl

theorem owns_keep {S : Nat → Prop} {w w' : World} {base size n : Nat} {e : TypeId} {v : Value} {xs : List Value} (h : w.ownsRow base e size v n xs) (k : Keep S w w') (hS : ∀ j, base ≤ j → ¬ S j) : w'.ownsRow base e size v n xs := by
  refine ⟨h.1, ?_⟩
  rcases h.2 with hn | ⟨g, cap, cur, rfl, hb, hg, r⟩
  · exact .inl hn
  · exact .inr ⟨g, cap, cur, rfl, hb, (k.block g (lt_of_block hg) (hS g hb)).trans hg, r⟩

set_option maxHeartbeats 1000000 in
set_option maxRecDepth 100000 in
theorem lsnApart_same (a b : Int) (s : Option Addr) (len cap : Nat) (w : World) (h : IntKind.u64.wrap a % 8 = IntKind.u64.wrap b % 8) :
    Calls Try.prog 4 #[.int .i64 a, .int .i64 b, .slice s len cap] w fun e w' => e = .returned (.bool true) ∧ Below w.heap.size w w' := by
  have HL := Lib.hid lives_yes
  have h0 : 0 ≤ IntKind.u64.wrap a := by rw [IntKind.wrap_u64]; omega
  have h1 : 0 ≤ IntKind.u64.wrap b := by rw [IntKind.wrap_u64]; omega
  have hb : (IntKind.u64.wrap a % 8 == IntKind.u64.wrap b % 8) = true := by rw [beq_iff_eq]; exact h
  clear h
  go_enter Try.func4, Try.ntmps4
  go_wp2_with fail
  refine (HL.out _).mono ?_
  rintro e w' ⟨rfl, hkp⟩
  go_wp2_with fail
  go_ret
  exact ⟨rfl, hkp.below (Nat.le_refl _) (fun _ _ h => h)⟩

set_option maxHeartbeats 4000000 in
set_option maxRecDepth 100000 in
theorem lsnApart_walk (a b : Int) (s : Option Addr) (len cap : Nat) (bs : Nat → Bool) (w : World) (h : ¬ IntKind.u64.wrap a % 8 = IntKind.u64.wrap b % 8)
    (ha : ArgBits w s len bs) (hm : len ≤ 9223372036854775807) :
    Calls Try.prog 4 #[.int .i64 a, .int .i64 b, .slice s len cap] w fun e w' => e = .returned (.bool true) ∧ Below w.heap.size w w' := by
  have HL := Lib.hid lives_yes
  have HA := Lib.hid ha
  clear ha
  obtain ⟨i0, hi, hz0, hz1, hz2⟩ := info_parts info23
  have h0 : 0 ≤ IntKind.u64.wrap a := by rw [IntKind.wrap_u64]; omega
  have h1 : 0 ≤ IntKind.u64.wrap b := by rw [IntKind.wrap_u64]; omega
  have hb : (IntKind.u64.wrap a % 8 == IntKind.u64.wrap b % 8) = false := by rw [beq_eq_false_iff_ne]; exact h
  go_enter Try.func4, Try.ntmps4
  go_wp2_with fail
  obtain ⟨i, hi'⟩ : ∃ i, i = IntKind.u64.wrap a % 8 := ⟨_, rfl⟩
  obtain ⟨k, hk'⟩ : ∃ k, k = IntKind.u64.wrap b % 8 := ⟨_, rfl⟩
  have i0' : 0 ≤ i := by omega
  have i1' : i < 8 := by omega
  have k0' : 0 ≤ k := by omega
  have k1' : k < 8 := by omega
  rw [← hi', ← hk'] at h
  simp only [← hi', ← hk']
  clear hb hi' hk' h0 h1
  refine (new_yes i w i0' i1').mono ?_
  rintro e w1 ⟨rfl, hc, hk⟩
  have C1 := Lib.hid hc
  have K1 := Lib.hid hk
  clear hc hk
  go_wp2_with fail
  refine (new_yes k w1 k0' k1').mono ?_
  rintro e w2 ⟨rfl, hc, hk⟩
  have D2 := Lib.hid hc
  have C2 : Hid (Clk w2 w.heap.size i 0) := C1.out.keep hk (fun h => h)
  have B2 : Hid (Below w.heap.size w w2) := ((K1.out.trans hk (fun _ h => h.elim)).below (B := w.heap.size) (Nat.le_refl _) (fun _ _ h => h))
  have e1 := C1.out.lt
  have e2 := hc.lt
  obtain ⟨q, hq⟩ : ∃ q, q = w1.heap.size := ⟨_, rfl⟩
  rw [← hq] at D2 e1 e2
  simp only [← hq]
  clear hc hk hq C1 K1
  go_wp2_with fail
  go_loopw [13, 14, 15, 16, 17] (fun v j _ _ _ wr => ∃ (m : Nat) (nc nd : Int) (ms : List Int), m ≤ len ∧ m ≤ 60 ∧ j = .int .i64 m ∧ 0 ≤ nc ∧ nc ≤ m ∧ 0 ≤ nd ∧ nd ≤ m ∧ Told i k nc nd ms ∧ ms.length ≤ m ∧ Clk wr w.heap.size i nc ∧ Clk wr q k nd ∧ wr.ownsRow (q + 1) 23 1 v ms.length (ms.map (Value.int .u64)) ∧ Below w.heap.size w wr) (fun _ j _ _ _ _ => len - (intOf j).toNat)
  case atStart => exact ⟨0, 0, 0, [], Nat.zero_le _, Nat.zero_le _, rfl, by omega, by omega, by omega, by omega, (fun y hy => by cases hy), Nat.le_refl _, C2.out, D2.out, World.ownsRow_nil _ _ _ _, B2.out⟩
  case round =>
    obtain ⟨m, nc, nd, ms, hm1, hm2, rfl, c0, c1, d0, d1, htold, hml, hC, hD, hO, hB⟩ := hrel
    have hikT : ¬ k = i := fun e => h e.symm
    have C := Lib.hid hC
    have D := Lib.hid hD
    have O := Lib.hid hO
    have B := Lib.hid hB
    have T := Lib.hid htold
    have qlt := hD.lt
    clear hC hD hO hB htold
    rcases (by omega : (m < len ∧ m < 60) ∨ (m < len ∧ 60 ≤ m) ∨ len ≤ m) with ⟨hlt, hlt1⟩ | ⟨hlt, hge⟩ | hge
    · obtain ⟨g, off, rfl, hgw, hcell⟩ := HA.out.at B.out hlt
      go_wp2_with fail
      refine (tick_ok _ i nc _ C.out i0' i1' c0 (by omega)).mono ?_
      rintro e w3 ⟨rfl, hc3, hk3⟩
      have C3 := Lib.hid hc3
      have D3 : Hid (Clk w3 q k nd) := D.out.keep hk3 (by omega)
      have O3 := Lib.hid (owns_keep O.out hk3 (fun j hj e => by omega))
      have B3 : Hid (Below w.heap.size w w3) := B.out.trans (hk3.below (B := w.heap.size) B.out.size (fun k h e => by omega))
      have q3 := D3.out.lt
      rw [← hk3.cell (p := ⟨g, off + m, none⟩) (World.block_lt_of_cell? _ _ hcell) (fun e => by simp only at e; omega)] at hcell
      clear hc3 hk3 C D O B
      cases hl : bs m
      · rw [hl] at hcell
        clear hl
        go_wp2_with fail
        obtain ⟨x, hx⟩ : ∃ x, x = (nc + 1) * 16 + i := ⟨_, rfl⟩
        simp only [← hx]
        have X : Hid (∀ y ∈ ms, (y == x) = false) := fun y hy => by
          rw [beq_eq_false_iff_ne]
          rcases T.out y hy with ⟨e1, e2⟩ | ⟨e1, e2⟩ <;> omega
        have TX : Hid (Told i k (nc + 1) nd (ms ++ [x])) := (T.out.mono (by omega) (by omega)).snoc (.inl ⟨by omega, by omega⟩)
        have x0 : 0 ≤ x := by omega
        have x1 : x < 18446744073709551616 := by omega
        have x2 : x / 16 ≤ m + 1 := by omega
        clear hx T
        obtain ⟨a0, cap0, rfl, _, hat'⟩ := owns_at O3.out
        have hat := Lib.hid hat'
        clear hat'
        go_loop [17] (fun n => ∃ j : Nat, j ≤ ms.length ∧ n = .int .i64 j) (fun n => ms.length - (intOf n).toNat)
        case atStart => exact ⟨0, Nat.zero_le _, rfl⟩
        case round =>
          obtain ⟨j, hj, rfl⟩ := hrel
          by_cases hjl : j < ms.length
          · obtain ⟨a', rfl, hab, hcl⟩ := hat.out j hjl
            have hne := X.out (ms.getD j 0) (by rw [List.getD_eq_getElem?_getD, List.getElem?_eq_getElem hjl]; exact List.getElem_mem hjl)
            generalize ms.getD j 0 = y at hcl hne
            go_wp2
            go_round
            case rel => exact ⟨j + 1, by omega, by go_num⟩
            case measure => simp [intOf]; omega
          · have hjl' : ms.length ≤ j := by omega
            clear hat
            have hsz := B3.out.size
            go_wp2_with (at_builtin; refine wpList_append_own _ rfl _ _ 37 rfl (q + 1) 23 i0 (.int .u64 0) 1 8 Try.underlying37 hi hz0 hz1 hz2 rfl (by decide) _ _ _ rfl (O3.out.alloc _) ⟨w3.heap.size, 0, none⟩ 1 1 [.int .u64 x] rfl rfl (cell_one_new _ _ _) (by simp [Value.oneCell']) (by unfold maxLen; omega) (by omega) (by simp; omega) ?_)
            intro v' w7 hown' hgrow _
            have O7 : Hid (w7.ownsRow (q + 1) 23 1 v' (ms ++ [x]).length ((ms ++ [x]).map (Value.int .u64))) := by
              rw [List.length_append, List.map_append]; exact hown'
            have hlt7 := O3.out.lt
            have C7 : Hid (Clk w7 w.heap.size i (nc + 1)) := (hgrow.block _ (by simp; omega) (fun e => by have := (hlt7 _ e.symm).1; omega)).trans ((Below.heap_alloc _ _ _ (by omega)).trans C3.out)
            have D7 : Hid (Clk w7 q k nd) := (hgrow.block _ (by simp; omega) (fun e => by have := (hlt7 _ e.symm).1; omega)).trans ((Below.heap_alloc _ _ _ (by omega)).trans D3.out)
            have B7 : Hid (Below w.heap.size w w7) := (B3.out.alloc hsz _).grown hgrow (by simp; omega) (fun j hj => by have := (hlt7 j hj).1; omega)
            clear hown' hgrow hlt7 C3 D3 O3 B3
            have S7 := Lib.hid (fun hc => see_any q x k nd w7 hc x0 x1)
            rcases (by omega : (m : Int) % 3 = 0 ∨ ¬ (m : Int) % 3 = 0) with h3 | h3
            · have h3b : ((m : Int) % 3 == 0) = true := by rw [beq_iff_eq]; exact h3
              clear h3
              go_wp2_with fail
              refine (S7.out D7.out).mono ?_
              rintro e w8 ⟨rfl, hd8, hk8⟩
              have C8 : Hid (Clk w8 w.heap.size i (nc + 1)) := C7.out.keep hk8 (by omega)
              have D8 := Lib.hid hd8
              have O8 := Lib.hid (owns_keep O7.out hk8 (fun j hj e => by omega))
              have B8 : Hid (Below w.heap.size w w8) := B7.out.trans (hk8.below (B := w.heap.size) B7.out.size (fun k h e => by omega))
              clear hd8 hk8
              have g1 := seeN_ge nd x
              have g2 := seeN_le nd x (m + 1) (by omega) (by omega)
              go_wp2_with fail
              go_roundw
              case rel => exact ⟨m + 1, (nc + 1), _, ms ++ [x], by omega, by omega, by go_num, by omega, by omega, by omega, by omega, TX.out.mono (by omega) g1, by simp; omega, C8.out, D8.out, O8.out, B8.out⟩
              case measure => simp [intOf]; omega
            · have h3b : ((m : Int) % 3 == 0) = false := by rw [beq_eq_false_iff_ne]; exact h3
              clear h3
              go_wp2_with fail
              go_roundw
              case rel => exact ⟨m + 1, (nc + 1), nd, ms ++ [x], by omega, by omega, by go_num, by omega, by omega, by omega, by omega, TX.out, by simp; omega, C7.out, D7.out, O7.out, B7.out⟩
              case measure => simp [intOf]; omega
      · rw [hl] at hcell
        clear hl
        go_wp2_with fail
        refine (tick_ok _ k nd _ D3.out k0' k1' d0 (by omega)).mono ?_
        rintro e w4 ⟨rfl, hd4, hk4⟩
        have D4 := Lib.hid hd4
        have C4 : Hid (Clk w4 w.heap.size i (nc + 1)) := C3.out.keep hk4 (by omega)
        have O4 := Lib.hid (owns_keep O3.out hk4 (fun j hj e => by omega))
        have B4 : Hid (Below w.heap.size w w4) := B3.out.trans (hk4.below (B := w.heap.size) B3.out.size (fun k h e => by omega))
        have q4 := D4.out.lt
        clear hd4 hk4 hcell C3 D3 O3 B3
        obtain ⟨x, hx⟩ : ∃ x, x = (nd + 1) * 16 + k := ⟨_, rfl⟩
        simp only [← hx]
        have X : Hid (∀ y ∈ ms, (y == x) = false) := fun y hy => by
          rw [beq_eq_false_iff_ne]
          rcases T.out y hy with ⟨e1, e2⟩ | ⟨e1, e2⟩ <;> omega
        have g3 := seeN_ge (nc + 1) x
        have g4 := seeN_le (nc + 1) x (m + 1) (by omega) (by omega)
        have S4 := Lib.hid (fun w hc => see_any w.heap.size x i (nc + 1) w hc (by omega) (by omega))
        have S4 : Hid (∀ b w, Clk w b i (nc + 1) → Calls Try.prog 18 #[.pointer (some ⟨b, 0, none⟩), .int .u64 x] w fun e w' => e = .returned (.tuple #[]) ∧ Clk w' b i (seeN (nc + 1) x) ∧ Keep (fun k => k = b) w w') := fun b w hc => see_any b x i (nc + 1) w hc (by omega) (by omega)
        generalize seeN (nc + 1) x = nc' at g3 g4 S4
        have TX : Hid (Told i k nc' (nd + 1) (ms ++ [x])) := (T.out.mono (by omega) (by omega)).snoc (.inr ⟨by omega, by omega⟩)
        have x0 : 0 ≤ x := by omega
        have x1 : x < 18446744073709551616 := by omega
        have x2 : x / 16 ≤ m + 1 := by omega
        clear hx T
        go_wp2_with fail
        refine (S4.out _ _ C4.out).mono ?_
        rintro e w5 ⟨rfl, hc5, hk5⟩
        have C5 := Lib.hid hc5
        have D5 : Hid (Clk w5 q k (nd + 1)) := D4.out.keep hk5 (by omega)
        have O5 := Lib.hid (owns_keep O4.out hk5 (fun j hj e => by omega))
        have B5 : Hid (Below w.heap.size w w5) := B4.out.trans (hk5.below (B := w.heap.size) B4.out.size (fun k h e => by omega))
        have q5 := D5.out.lt
        clear hc5 hk5 C4 D4 O4 B4
        go_wp2_with fail
        obtain ⟨a0, cap0, rfl, _, hat'⟩ := owns_at O5.out
        have hat := Lib.hid hat'
        clear hat'
        go_loop [17] (fun n => ∃ j : Nat, j ≤ ms.length ∧ n = .int .i64 j) (fun n => ms.length - (intOf n).toNat)
        case atStart => exact ⟨0, Nat.zero_le _, rfl⟩
        case round =>
          obtain ⟨j, hj, rfl⟩ := hrel
          by_cases hjl : j < ms.length
          · obtain ⟨a', rfl, hab, hcl⟩ := hat.out j hjl
            have hne := X.out (ms.getD j 0) (by rw [List.getD_eq_getElem?_getD, List.getElem?_eq_getElem hjl]; exact List.getElem_mem hjl)
            generalize ms.getD j 0 = y at hcl hne
            go_wp2
            go_round
            case rel => exact ⟨j + 1, by omega, by go_num⟩
            case measure => simp [intOf]; omega
          · have hjl' : ms.length ≤ j := by omega
            clear hat
            have hsz := B5.out.size
            go_wp2_with (at_builtin; refine wpList_append_own _ rfl _ _ 37 rfl (q + 1) 23 i0 (.int .u64 0) 1 8 Try.underlying37 hi hz0 hz1 hz2 rfl (by decide) _ _ _ rfl (O5.out.alloc _) ⟨w5.heap.size, 0, none⟩ 1 1 [.int .u64 x] rfl rfl (cell_one_new _ _ _) (by simp [Value.oneCell']) (by unfold maxLen; omega) (by omega) (by simp; omega) ?_)
            intro v' w7 hown' hgrow _
            have O7 : Hid (w7.ownsRow (q + 1) 23 1 v' (ms ++ [x]).length ((ms ++ [x]).map (Value.int .u64))) := by
              rw [List.length_append, List.map_append]; exact hown'
            have hlt7 := O5.out.lt
            have C7 : Hid (Clk w7 w.heap.size i nc') := (hgrow.block _ (by simp; omega) (fun e => by have := (hlt7 _ e.symm).1; omega)).trans ((Below.heap_alloc _ _ _ (by omega)).trans C5.out)
            have D7 : Hid (Clk w7 q k (nd + 1)) := (hgrow.block _ (by simp; omega) (fun e => by have := (hlt7 _ e.symm).1; omega)).trans ((Below.heap_alloc _ _ _ (by omega)).trans D5.out)
            have B7 : Hid (Below w.heap.size w w7) := (B5.out.alloc hsz _).grown hgrow (by simp; omega) (fun j hj => by have := (hlt7 j hj).1; omega)
            clear hown' hgrow hlt7 C5 D5 O5 B5
            have S7 := Lib.hid (fun hc => see_any q x k (nd + 1) w7 hc x0 x1)
            rcases (by omega : (m : Int) % 3 = 0 ∨ ¬ (m : Int) % 3 = 0) with h3 | h3
            · have h3b : ((m : Int) % 3 == 0) = true := by rw [beq_iff_eq]; exact h3
              clear h3
              go_wp2_with fail
              refine (S7.out D7.out).mono ?_
              rintro e w8 ⟨rfl, hd8, hk8⟩
              have C8 : Hid (Clk w8 w.heap.size i nc') := C7.out.keep hk8 (by omega)
              have D8 := Lib.hid hd8
              have O8 := Lib.hid (owns_keep O7.out hk8 (fun j hj e => by omega))
              have B8 : Hid (Below w.heap.size w w8) := B7.out.trans (hk8.below (B := w.heap.size) B7.out.size (fun k h e => by omega))
              clear hd8 hk8
              have g1 := seeN_ge (nd + 1) x
              have g2 := seeN_le (nd + 1) x (m + 1) (by omega) (by omega)
              go_wp2_with fail
              go_roundw
              case rel => exact ⟨m + 1, nc', _, ms ++ [x], by omega, by omega, by go_num, by omega, by omega, by omega, by omega, TX.out.mono (by omega) g1, by simp; omega, C8.out, D8.out, O8.out, B8.out⟩
              case measure => simp [intOf]; omega
            · have h3b : ((m : Int) % 3 == 0) = false := by rw [beq_eq_false_iff_ne]; exact h3
              clear h3
              go_wp2_with fail
              go_roundw
              case rel => exact ⟨m + 1, nc', (nd + 1), ms ++ [x], by omega, by omega, by go_num, by omega, by omega, by omega, by omega, TX.out, by simp; omega, C7.out, D7.out, O7.out, B7.out⟩
              case measure => simp [intOf]; omega
    all_goals
      clear C D O T
      go_wp2_with fail
      refine (HL.out _).mono ?_
      rintro e w' ⟨rfl, hkp⟩
      go_wp2_with fail
      go_ret
      exact ⟨rfl, B.out.trans (hkp.below B.out.size (fun _ _ h => h))⟩

end Go.Proofs.Ytjakpmmjlmiekaa
