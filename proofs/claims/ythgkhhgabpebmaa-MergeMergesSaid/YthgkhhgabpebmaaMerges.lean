/- The walk of 'MergeMerges'. -/
import Derived.Test.YthgkhhgabpebmaaRefMerge
import Derived.Test.YthgkhhgabpebmaaOwn
namespace Go.Proofs.Ythgkhhgabpebmaa
open Go.RowKit
set_option linter.unusedVariables false
set_option linter.unusedSimpArgs false

theorem rises_fix (a : Option Addr) (n cap : Nat) (cs : List RC) (w : World) (h : Recs w a n cs) (hn : n ≤ 9223372036854775800) (b : Bool) (hb : b = true ↔ Rising cs) :
    Calls Try.prog 12 #[.slice a n cap] w fun e w' => e = .returned (.bool b) ∧ Keep (fun _ => False) w w' :=
  (rises_any a n cap cs w h (by omega)).mono fun e w' ⟨b', he, hb', d, hw⟩ => by
    subst hw
    have : b' = b := by rw [Bool.eq_iff_iff, hb, hb']
    subst this
    exact ⟨he, (Keep.refl _ _).drewN _⟩

theorem refRises_fix (a : Option Addr) (n cap : Nat) (cs : List RC) (w : World) (h : Recs w a n cs) (hn : n ≤ 9223372036854775800) (b : Bool) (hb : b = true ↔ Rising cs) :
    Calls Try.prog 23 #[.slice a n cap] w fun e w' => e = .returned (.bool b) ∧ Keep (fun _ => False) w w' :=
  (refRises_any a n cap cs w h hn).mono fun e w' ⟨b', he, hb', d, hw⟩ => by
    subst hw
    have : b' = b := by rw [Bool.eq_iff_iff, hb, hb']
    subst this
    exact ⟨he, (Keep.refl _ _).drewN _⟩

set_option maxHeartbeats 2000000 in
set_option maxRecDepth 100000 in
theorem lawCopied_at (w0 : World) (a : Option Addr) (n cap : Nat) (cs : List RC) (w : World) (h : Recs w0 a n cs) (hb : Below w0.heap.size w0 w) (hnil : a = none → cap = 0) (hn : n ≤ 100000) :
    Calls Try.prog 22 #[.slice a n cap] w fun e w' => ∃ oa oc xs, e = .returned (.slice oa n oc) ∧ Lent w0 w' w.heap.size oa n oc cs xs ∧ Keep (fun _ => False) w w' := by
  obtain ⟨i0, hi0, hz0, hz1, hz2⟩ := info_parts info59
  obtain ⟨xs, hxl, hxe, hxs⟩ := h.src hnil
  have XE := Lib.hid hxe
  have XS := Lib.hid (hxs.below hb)
  have XL := Lib.hid hxl
  clear h hnil hxe hxs hxl hb
  go_enter Try.func22, Try.ntmps22
  go_wp2_with (at_builtin; refine wpList_append_src rfl _ _ 25 rfl w.heap.size 59 i0 (.agg #[.int .i64 0, .int .u64 0, .int .i64 0, .int .u64 0, .int .u64 0, .int .i64 0, .int .i64 0, .string ByteArray.empty, .string ByteArray.empty, .string ByteArray.empty, .slice none 0 0, .slice none 0 0]) 12 152 Try.underlying25 hi0 hz0 hz1 hz2 rfl (by decide) (.slice none 0 0) 0 [] rfl (World.ownsRow_nil _ _ _ _) a n cap (allcells xs) rfl ?_ (by unfold maxLen; omega) (by omega) (Nat.le_refl _) ?_)
  · exact XS.out
  intro v' w1 hown hgrow
  obtain ⟨oa, oc, rfl⟩ := owns_shape hown
  have K1 : Keep (fun _ => False) w w1 := (Keep.refl _ w).grown hgrow (fun j hj => by simp [Value.ownBlock] at hj)
  have O := Lib.hid hown
  clear hown hgrow
  go_wp2_with fail
  go_ret
  exact ⟨oa, oc, xs, rfl, ⟨O.out, XE.out, XL.out⟩, K1⟩

theorem Few.same {ls ms : List Lg} (h : Few ls) (e : ms.map Lg.cs = ls.map Lg.cs) : Few ms := by
  have hl : ms.length = ls.length := by have := congrArg List.length e; simpa using this
  refine ⟨by rw [hl]; exact h.logs, by rw [e]; exact h.recs, fun l hl c hc => ?_⟩
  have : l.cs ∈ ls.map Lg.cs := by rw [← e]; exact List.mem_map_of_mem hl
  obtain ⟨m, hm, em⟩ := List.mem_map.1 this
  exact h.each m hm c (by rw [em]; exact hc)

/-- Copies of the first logs. -/
structure Mines (w1 w : World) (a : Option Addr) (n c : Nat) (ms ls : List Lg) : Prop where
  row : w.ownsRow w1.heap.size 25 1 (.slice a n c) n (ms.map Lg.val)
  each : ∀ m ∈ ms, ∃ xs, Lent w1 w w1.heap.size m.a m.n m.c m.cs xs
  cs : ms.map Lg.cs = (ls.take n).map Lg.cs
  len : ms.length = n

theorem Mines.keep0 {w1 w w' : World} {a : Option Addr} {n c : Nat} {ms ls : List Lg} (h : Mines w1 w a n c ms ls) (k : Keep (fun _ => False) w w') : Mines w1 w' a n c ms ls :=
  ⟨owns_keep h.row k (fun _ _ h => h), fun m hm => by obtain ⟨xs, hx⟩ := h.each m hm; exact ⟨xs, hx.keep k (fun _ _ h => h)⟩, h.cs, h.len⟩

theorem Mines.logs {w1 w : World} {a : Option Addr} {n c : Nat} {ms ls : List Lg} (h : Mines w1 w a n c ms ls) (hb : Below w1.heap.size w1 w) : Logs w a n ms :=
  row_logs h.row (fun m hm => by obtain ⟨xs, hx⟩ := h.each m hm; exact ⟨hx.recs hb, (owns_nil hx.row).2⟩) (fun m hm => by obtain ⟨xs, hx⟩ := h.each m hm; exact (owns_nil hx.row).1)

theorem Mines.snoc {w1 w w' : World} {a a' : Option Addr} {n c c' : Nat} {ms ls : List Lg} (h : Mines w1 w a n c ms ls) {m l : Lg} {xs : List Rq} (hm : Lent w1 w w1.heap.size m.a m.n m.c m.cs xs) (hl : ls[n]? = some l) (hcs : m.cs = l.cs)
    (k : Keep (fun j => (Value.slice a n c).ownBlock = some j) w w') (hr : w'.ownsRow w1.heap.size 25 1 (.slice a' (n + 1) c') (n + 1) ((ms ++ [m]).map Lg.val)) : Mines w1 w' a' (n + 1) c' (ms ++ [m]) ls := by
  have hS : ∀ {b n2 c2 : Nat} {a2 : Option Addr} {vs : List Value}, w.ownsRow w1.heap.size 59 12 (.slice a2 n2 c2) n2 vs → (Value.slice a2 n2 c2).ownBlock = some b → ¬ (Value.slice a n c).ownBlock = some b := fun h1 h2 e => by
    obtain ⟨c1, k1⟩ := owns_cells h1 h2
    obtain ⟨c2, k2⟩ := owns_cells h.row e
    exact ne_of_type k1 k2 (by decide) rfl
  refine ⟨hr, fun q hq => ?_, by rw [take_snoc hl, List.map_append, List.map_append, h.cs]; simp [hcs], by simp [h.len]⟩
  rcases List.mem_append.1 hq with hq | hq
  · obtain ⟨zs, hz⟩ := h.each q hq
    exact ⟨zs, hz.keep k (fun b hb => hS hz.row hb)⟩
  · rw [List.mem_singleton] at hq
    subst hq
    exact ⟨xs, hm.keep k (fun b hb => hS hm.row hb)⟩

theorem Lent.base {w0 w : World} {base base' : Nat} {a : Option Addr} {n c : Nat} {cs : List RC} {xs : List Rq} (h : Lent w0 w base a n c cs xs) (hb : base' ≤ base) : Lent w0 w base' a n c cs xs := ⟨owns_base h.row hb, h.each, h.len⟩

end Go.Proofs.Ythgkhhgabpebmaa
