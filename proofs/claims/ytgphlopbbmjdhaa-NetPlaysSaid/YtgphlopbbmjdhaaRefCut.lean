/- 'Cut' of the document's net. -/
import Derived.Test.YtgphlopbbmjdhaaRefTake
import Derived.IntWalk
namespace Go.Proofs.Ytgphlopbbmjdhaa
open Go.RowKit Go.Conc
set_option linter.unusedVariables false
set_option linter.unusedSimpArgs false

/-- The items of others. -/
def left (p : Int) (zs : List It) : List It := zs.filter fun z => z.frm != p && z.dest != p

theorem left_snoc (p : Int) (zs : List It) (z : It) : left p (zs ++ [z]) = left p zs ++ (if z.frm = p ∨ z.dest = p then [] else [z]) := by
  simp only [left, List.filter_append, List.append_cancel_left_eq]
  by_cases h : z.frm = p ∨ z.dest = p
  · rw [if_pos h, List.filter_cons_of_neg (by simp; rcases h with h | h <;> simp [h])]; rfl
  · rw [if_neg h, List.filter_cons_of_pos (by simp only [not_or] at h; simp [h.1, h.2])]; rfl

structure Pair2 (w : World) (b : Nat) (ts rs : List Value) : Prop where
  t : Blk w b 54 ts
  r : Blk w (b + 1) 54 rs

theorem Pair2.keep {w w' : World} {b : Nat} {ts rs : List Value} (h : Pair2 w b ts rs) (k : Keep (fun _ => False) w w') : Pair2 w' b ts rs := ⟨h.t.keep k (fun h => h), h.r.keep k (fun h => h)⟩
theorem Pair2.grown {w w' : World} {b base n : Nat} {ts rs xs : List Value} {v : Value} (h : Pair2 w b ts rs) (ho : w.ownsRow base 77 11 v n xs) (k : Keep (fun j => v.ownBlock = some j) w w') : Pair2 w' b ts rs :=
  ⟨h.t.keep k (fun e => owns_ne ho h.t (by decide) e rfl), h.r.keep k (fun e => owns_ne ho h.r (by decide) e rfl)⟩
theorem Pair2.new (w : World) (ts rs : List Value) : Pair2 ((w.alloc (.cells ts.toArray 54)).alloc (.cells rs.toArray 54)) w.heap.size ts rs := by
  have h1 := Blk.new w 54 ts
  have h2 := Blk.new (w.alloc (.cells ts.toArray 54)) 54 rs
  have s2 : (w.alloc (.cells ts.toArray 54)).heap.size = w.heap.size + 1 := by simp
  rw [s2] at h2
  exact ⟨h1.keep ((Keep.refl (fun _ => False) _).alloc _) (fun h => h), h2⟩

set_option maxHeartbeats 2000000 in
set_option maxRecDepth 100000 in
theorem refCut_none (n : Nat) (a : Option Addr) (len cap : Nat) (p : Int) (w : World) (hp : ¬ (1 ≤ p ∧ p ≤ n)) :
    Calls Try.prog 30 #[.agg #[.int .i64 n, .slice a len cap], .int .i64 p] w fun e w' =>
      e = .returned (.tuple #[.agg #[.int .i64 n, .slice a len cap], .int .i64 0]) ∧ Keep (fun _ => False) w w' := by
  have K0 : Keep (fun _ => False) w ((w.alloc (.cells #[.int .i64 n, .slice a len cap] 54)).alloc (.cells #[.int .i64 0, .slice none 0 0] 54)) := ((Keep.refl _ _).alloc _).alloc _
  have B0 : Pair2 ((w.alloc (.cells #[.int .i64 n, .slice a len cap] 54)).alloc (.cells #[.int .i64 0, .slice none 0 0] 54)) w.heap.size [.int .i64 n, .slice a len cap] [.int .i64 0, .slice none 0 0] := Pair2.new w [.int .i64 n, .slice a len cap] [.int .i64 0, .slice none 0 0]
  have KK := Lib.hid K0
  have BB := Lib.hid B0
  clear K0 B0
  rcases (by omega : p < 1 ∨ (1 ≤ p ∧ (n : Int) < p)) with h1 | ⟨h1, h2⟩
  all_goals
    clear hp
    go_enter Try.func30, Try.ntmps30
    go_wp2_with fail
    refine bodyPost_ret (v := .tuple #[.agg #[.int .i64 n, .slice a len cap], .int .i64 0]) (by simp [results, Try.results30, go_sem]) rfl ⟨rfl, ((Keep.refl _ _).alloc _).alloc _⟩

set_option maxHeartbeats 2000000 in
set_option maxRecDepth 100000 in
theorem refCut_some (n : Nat) (a : Option Addr) (len cap base : Nat) (zs : List It) (p : Int) (w : World) (h : RefAt w base a len cap zs) (hlen : len ≤ 1000000) (p1 : 1 ≤ p) (pn : p ≤ n) :
    Calls Try.prog 30 #[.agg #[.int .i64 n, .slice a len cap], .int .i64 p] w fun e w' =>
      ∃ a' cap', e = .returned (.tuple #[.agg #[.int .i64 n, .slice a' (left p zs).length cap'], .int .i64 (len - (left p zs).length)]) ∧
        RefAt w' w.heap.size a' (left p zs).length cap' (left p zs) ∧ Keep (fun _ => False) w w' := by
  obtain ⟨i0, hi0, hz0, hz1, hz2⟩ := info_parts info77
  have HR := Lib.hid h
  have HL := Lib.hid h.len
  clear h
  have K0 : Keep (fun _ => False) w ((w.alloc (.cells #[.int .i64 n, .slice a len cap] 54)).alloc (.cells #[.int .i64 0, .slice none 0 0] 54)) := ((Keep.refl _ _).alloc _).alloc _
  have B0 : Pair2 ((w.alloc (.cells #[.int .i64 n, .slice a len cap] 54)).alloc (.cells #[.int .i64 0, .slice none 0 0] 54)) w.heap.size [.int .i64 n, .slice a len cap] [.int .i64 0, .slice none 0 0] := Pair2.new w [.int .i64 n, .slice a len cap] [.int .i64 0, .slice none 0 0]
  go_enter Try.func30, Try.ntmps30
  go_wp2_with fail
  generalize ((w.alloc (.cells #[.int .i64 n, .slice a len cap] 54)).alloc (.cells #[.int .i64 0, .slice none 0 0] 54)) = w0 at K0 B0 ⊢
  go_loopw [6, 7] (fun l i wr => ∃ (k : Nat) (a' : Option Addr) (cap' : Nat), k ≤ len ∧ i = .int .i64 k ∧ l = .slice a' (left p (zs.take k)).length cap' ∧ wr.ownsRow w.heap.size 77 11 (.slice a' (left p (zs.take k)).length cap') (left p (zs.take k)).length (itcells (left p (zs.take k))) ∧ Pair2 wr w.heap.size [.int .i64 n, .slice a len cap] [.int .i64 0, .slice none 0 0] ∧ Keep (fun _ => False) w wr) (fun _ i _ => len - (intOf i).toNat)
  case atStart => exact ⟨0, none, 0, Nat.zero_le _, rfl, rfl, World.ownsRow_nil _ _ _ _, B0, K0⟩
  case round =>
    clear K0 B0
    obtain ⟨k, a', cap', hk, rfl, rfl, hO, hB, hK⟩ := hrel
    have t1 := hB.t.at (i := 1) rfl
    have O := Lib.hid hO
    have B := Lib.hid hB
    have K := Lib.hid hK
    have hsl : (left p (zs.take k)).length ≤ 1000000 := by
      have h1 : (left p (zs.take k)).length ≤ (zs.take k).length := List.length_filter_le _ _
      rw [List.length_take] at h1
      omega
    clear hO hB hK
    rcases (by omega : k < len ∨ len ≤ k) with hlt | hge
    · obtain ⟨z, hz⟩ : ∃ z, zs[k]? = some z := ⟨_, List.getElem?_eq_getElem (by rw [HL.out]; exact hlt)⟩
      obtain ⟨g, rfl, hi⟩ := (HR.out.keep K.out (fun _ _ h => h)).item hz
      obtain ⟨c0, c1, e0, e1, e2, e3, e4, e5, e6, e7, e8⟩ := hi
      simp only [Nat.zero_add] at c0 c1 e0 e1 e2 e3 e4 e5 e6 e7 e8
      have HZ := Lib.hid hz
      clear hz
      by_cases h1 : z.frm = p
      · have h1b : (z.frm != p) = false := by simp [h1]
        have h1c : (z.frm == p) = true := by simp [h1]
        have H1 := Lib.hid h1
        clear h1
        go_wp2_with fail
        have hs : left p (zs.take (k + 1)) = left p (zs.take k) := by
          rw [List.take_add_one, HZ.out]
          exact (left_snoc p _ z).trans (by rw [if_pos (.inl H1.out)]; simp)
        go_roundw
        case rel => exact ⟨k + 1, a', cap', by omega, by go_num, by rw [hs], by rw [hs]; exact O.out, B.out, K.out⟩
        case measure => simp [intOf]; omega
      · have h1b : (z.frm != p) = true := by simp [h1]
        have h1c : (z.frm == p) = false := by simp [h1]
        have H1 := Lib.hid h1
        clear h1
        by_cases h2 : z.dest = p
        · have h2b : (z.dest != p) = false := by simp [h2]
          have h2c : (z.dest == p) = true := by simp [h2]
          have H2 := Lib.hid h2
          clear h2
          go_wp2_with fail
          have hs : left p (zs.take (k + 1)) = left p (zs.take k) := by
            rw [List.take_add_one, HZ.out]
            exact (left_snoc p _ z).trans (by rw [if_pos (.inr H2.out)]; simp)
          go_roundw
          case rel => exact ⟨k + 1, a', cap', by omega, by go_num, by rw [hs], by rw [hs]; exact O.out, B.out, K.out⟩
          case measure => simp [intOf]; omega
        · have h2b : (z.dest != p) = true := by simp [h2]
          have h2c : (z.dest == p) = false := by simp [h2]
          have H2 := Lib.hid h2
          clear h2
          have SZ : Hid (w.heap.size ≤ wr.heap.size) := K.out.size
          have c2 := e0
          go_wp2_with (at_builtin; refine wpList_append_src rfl _ _ 52 rfl w.heap.size 77 i0 (.agg #[.int .i64 0, .int .i64 0, .int .i64 0, .int .i64 0, .int .i64 0, .int .i64 0, .bool false, .int .u64 0, .slice none 0 0, .slice none 0 0, .string ByteArray.empty]) 11 128 Try.underlying52 hi0 hz0 hz1 hz2 rfl (by decide) (.slice a' (left p (zs.take k)).length cap') (left p (zs.take k)).length (itcells (left p (zs.take k))) rfl ?_ (some ⟨wr.heap.size, 0, none⟩) 1 1 z.cells rfl ?_ (by unfold maxLen; omega) (by omega) ?_ ?_)
          · exact O.out.alloc _
          · exact src_new wr 77 _ z.one
          · have := SZ.out; simp; omega
          intro v' w4 hown hgrow hne
          obtain ⟨a2, cap2, rfl⟩ := owns_shape hown
          clear hne
          have hs : left p (zs.take (k + 1)) = left p (zs.take k) ++ [z] := by
            rw [List.take_add_one, HZ.out]
            exact (left_snoc p _ z).trans (by rw [if_neg (fun h => h.elim H1.out H2.out)])
          have K4 : Keep (fun j => (Value.slice a' (left p (zs.take k)).length cap').ownBlock = some j) wr w4 := ((Keep.refl _ wr).alloc _).grown hgrow (fun j hj => .inl hj)
          have B4 := Lib.hid (B.out.grown O.out K4)
          have K5 := Lib.hid (K.out.trans K4 (fun j e => .inr (O.out.lt j e).1))
          have LN : Hid ((left p (zs.take k)).length + 1 = (left p (zs.take (k + 1))).length) := by rw [hs]; exact Lib.hid (by simp)
          have O4 : Hid (w4.ownsRow w.heap.size 77 11 (.slice a2 (left p (zs.take (k + 1))).length cap2) (left p (zs.take (k + 1))).length (itcells (left p (zs.take (k + 1))))) := by
            rw [hs, List.length_append, itcells_append, itcells_one]
            exact hown
          clear hs hown hgrow K4 e0 e1 e2 e3 e4 e5 e6 e7 e8 c0 c1 c2 t1
          rw [LN.out]
          go_wp2_with fail
          go_roundw
          case rel => exact ⟨k + 1, a2, cap2, by omega, by go_num, rfl, O4.out, B4.out, K5.out⟩
          case measure => simp [intOf]; omega
    · have hs : zs.take k = zs := List.take_of_length_le (by rw [HL.out]; exact hge)
      rw [hs] at O hsl ⊢
      have t0 := B.out.t.at (i := 0) rfl
      have r0 := B.out.r.at (i := 0) rfl
      have r1 := B.out.r.at (i := 1) rfl
      have fr := B.out.r.free
      have ne9 : w.heap.size ≠ w.heap.size + 1 := by omega
      have ne10 : w.heap.size + 1 ≠ w.heap.size := by omega
      have hle : ((left p zs).length : Int) ≤ len := by
        have h1 : (left p zs).length ≤ zs.length := List.length_filter_le _ _
        rw [HL.out] at h1
        omega
      have hwr : IntKind.i64.wrap ((len : Int) - (left p zs).length) = (len : Int) - (left p zs).length := Go.IntWalk.i64_in _ (by omega)
      have HW := Lib.hid hwr
      clear hwr
      go_wp2_with fail
      go_region_held3 (fun w' => w'.cell? ⟨w.heap.size, 0, none⟩ = some (.int .i64 n) ∧ w'.cell? ⟨w.heap.size, 1, none⟩ = some (.slice a len cap))
        (first | go_keep | (trace_state; fail))
        (fail)
      go_wp2_with fail
      have KE1 : ∀ (W : World) (o : Nat) (u : Value), Keep (fun k => k = w.heap.size + 1) W (W.setCell ⟨w.heap.size + 1, o, none⟩ u) := fun W o u => Keep.setCell (Keep.refl (fun k => k = w.heap.size + 1) W) (p := ⟨w.heap.size + 1, o, none⟩) (.inl rfl) u
      have KR := (KE1 wr 0 (.int .i64 n)).trans (KE1 _ 1 (.slice a' (left p zs).length cap')) (fun _ h => .inl h)
      have BR := (B.out.r.set 0 (.int .i64 n)).set 1 (.slice a' (left p zs).length cap')
      have q0 := BR.at (i := 0) rfl
      have q1 := BR.at (i := 1) rfl
      have hne1 : ∀ j, (Value.slice a' (left p zs).length cap').ownBlock = some j → ¬ (j = w.heap.size + 1) := fun j hj => owns_ne O.out B.out.r (by decide) hj
      refine bodyPost_ret (v := .tuple #[.agg #[.int .i64 n, .slice a' (left p zs).length cap'], .int .i64 (len - (left p zs).length)]) (by simp [results, Try.results30, go_sem, q0, q1, HW.out]) rfl ⟨a', cap', rfl, ⟨rfl, (owns_keep O.out KR hne1).drew⟩, (K.out.trans KR (fun _ e => .inr (by omega))).drew⟩

end Go.Proofs.Ytgphlopbbmjdhaa
