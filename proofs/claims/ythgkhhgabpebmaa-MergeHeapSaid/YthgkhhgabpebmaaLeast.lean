/- 'least' of the law MergeHeap; the heap that is nil; an append within the capacity, in a region that draws. -/
import Derived.Test.YthgkhhgabpebmaaILess
import Derived.Deep.RegionLaw
import Derived.IntWalk
namespace Go.Proofs.Ythgkhhgabpebmaa
open Go.RowKit
set_option linter.unusedVariables false
set_option linter.unusedSimpArgs false

theorem step_append_fits {P : Program} {ops : Array Oper} {o : Oper} {a : Act} {w : World} {K : Act → World → Prop} {Q : Exit → Act → World → Prop} {E : Prop}
    (hg : o.guard = none) (s x : Operand) (t : TypeId) (hop : o.op = Op.call { callee := Callee.builtin Builtin.append, args := #[s, x], argTypes := #[t, t] })
    (base : Nat) (e : TypeId) (i : TypeInfo) (size : Nat) (h1 : P.underlying t = some (.slice e)) (h2 : P.info? e = some i) (h4 : i.size = size)
    (g n cap : Nat) (xs : List Value) (hs : a.eval s = .slice (some ⟨g, 0, none⟩) n cap) (hown : w.ownsRow base e size (.slice (some ⟨g, 0, none⟩) n cap) n xs)
    (ad : Addr) (m c : Nat) (news : List Value) (hx : a.eval x = .slice (some ad) m c) (hn : news.length = m * size) (hc : ∀ j u, news[j]? = some u → w.cell? (ad.add j) = some u) (h1c : ∀ u ∈ news, u.oneCell' = true)
    (hroom : n + m ≤ cap)
    (hK : ∀ w', w'.ownsRow base e size (.slice (some ⟨g, 0, none⟩) (n + m) cap) (n + m) (xs ++ news) → w.grownBy w' (some g) → K (a.put o.dst (.slice (some ⟨g, 0, none⟩) (n + m) cap)) w') :
    if Region.wanted o (yielded ops a.tmps) = true then Oper.wp P o a w K Q else E := by
  have hw : Region.wanted o (yielded ops a.tmps) = true := by simp [Region.wanted, hg]
  rw [if_pos hw]
  obtain ⟨w', hrun, hr1, hr2⟩ := run_append_fits (P := P) w base t o.type e i size h1 h2 h4 g n cap xs hown ad m c news hn hc h1c hroom
  unfold Oper.wp
  simp [execOp, hop, resolve, invoke, builtin, hs, hx, hrun, Result.andThen]
  exact hK w' hr1 hr2

/-- The place of a least one. -/
def LeastPost (zs : List Int) (w : World) (e : Ending) (w' : World) : Prop := ∃ (k : Nat) (z : Int), e = .returned (.int .i64 k) ∧ zs[k]? = some z ∧ (∀ y ∈ zs, z ≤ y) ∧ ∃ d, w' = w.drewN d

set_option maxHeartbeats 1000000 in
set_option maxRecDepth 100000 in
theorem least_any (base g n cap : Nat) (zs : List Int) (w : World) (h : w.ownsRow base 3 1 (.slice (some ⟨g, 0, none⟩) n cap) n (zs.map (Value.int .i64))) (h0 : 0 < n) (hn : n ≤ 1000000) :
    Calls Try.prog 17 #[.slice (some ⟨g, 0, none⟩) n cap] w (LeastPost zs w) := by
  have hl : zs.length = n := by have := h.1; simpa using this
  have H := Lib.hid h
  have HL := Lib.hid hl
  clear h hl
  obtain ⟨z0, hz0⟩ : ∃ z, zs[0]? = some z := ⟨_, List.getElem?_eq_getElem (by rw [HL.out]; exact h0)⟩
  have Z0 := Lib.hid hz0
  clear hz0
  go_enter Try.func17, Try.ntmps17
  go_wp2_with fail
  go_loopw [3, 4] (fun kv i wr => ∃ (k j d : Nat) (z : Int), j ≤ n ∧ 1 ≤ j ∧ k < n ∧ kv = .int .i64 k ∧ i = .int .i64 j ∧ wr = w.drewN d ∧ Hid (zs[k]? = some z ∧ ∀ (l : Nat) y, l < j → zs[l]? = some y → z ≤ y)) (fun _ i _ => n - (intOf i).toNat)
  case atStart =>
    refine ⟨0, 1, 0, z0, by omega, Nat.le_refl _, h0, rfl, rfl, rfl, Lib.hid ⟨Z0.out, fun l y hl hy => ?_⟩⟩
    obtain rfl : l = 0 := by omega
    rw [Z0.out] at hy
    simp at hy
    omega
  case round =>
    obtain ⟨k, j, d, z, hj, hj1, hk, rfl, rfl, rfl, HS⟩ := hrel
    rcases (by omega : j < n ∨ n ≤ j) with hlt | hge
    · obtain ⟨y, hy⟩ : ∃ y, zs[j]? = some y := ⟨_, List.getElem?_eq_getElem (by rw [HL.out]; exact hlt)⟩
      have ej : w.cell? ⟨g, j, none⟩ = some (.int .i64 y) := by rw [H.out.cellAt j (by omega), List.getElem?_map, hy]; rfl
      have ek : w.cell? ⟨g, k, none⟩ = some (.int .i64 z) := by rw [H.out.cellAt k (by omega), List.getElem?_map, HS.out.1]; rfl
      have Y := Lib.hid hy
      clear hy
      by_cases hyz : y < z
      · have HS2 : Hid (zs[j]? = some y ∧ ∀ (l : Nat) x, l < j + 1 → zs[l]? = some x → y ≤ x) := Lib.hid ⟨Y.out, fun l x hl hx => by
          by_cases e : l = j
          · subst e; have := Y.out; rw [this] at hx; simp at hx; omega
          · have := HS.out.2 l x (by omega) hx; omega⟩
        go_wp2_with fail
        go_quiet (fail)
        go_wp2_with fail
        go_roundw
        case rel => exact ⟨j, j + 1, _, y, by omega, by omega, hlt, rfl, by go_num, rfl, HS2⟩
        case measure => simp [intOf]; omega
      · have HS2 : Hid (zs[k]? = some z ∧ ∀ (l : Nat) x, l < j + 1 → zs[l]? = some x → z ≤ x) := Lib.hid ⟨HS.out.1, fun l x hl hx => by
          by_cases e : l = j
          · subst e; have := Y.out; rw [this] at hx; simp at hx; omega
          · exact HS.out.2 l x (by omega) hx⟩
        go_wp2_with fail
        go_quiet (fail)
        go_wp2_with fail
        go_roundw
        case rel => exact ⟨k, j + 1, _, z, by omega, by omega, hk, rfl, by go_num, rfl, HS2⟩
        case measure => simp [intOf]; omega
    · go_wp2_with fail
      go_ret
      refine ⟨k, z, rfl, HS.out.1, fun y hy => ?_, _, rfl⟩
      obtain ⟨l, hl, rfl⟩ := List.mem_iff_getElem.1 hy
      exact HS.out.2 l _ (by have := HL.out; omega) (List.getElem?_eq_getElem hl)

set_option maxHeartbeats 400000 in
theorem nil_push (s : ByteArray) (w : World) : Calls Try.prog 19 #[.pointer none, .string s] w fun e w' => e = .returned (.tuple #[]) ∧ w = w' := by
  go_enter Try.func19, Try.ntmps19
  go_wp2
  exact bodyPost_ret (v := .tuple #[]) (by simp [results, Try.results19, go_sem]) rfl ⟨rfl, rfl⟩

set_option maxHeartbeats 400000 in
theorem nil_len (w : World) : Calls Try.prog 21 #[.pointer none] w fun e w' => e = .returned (.int .i64 0) ∧ w = w' := by
  go_enter Try.func21, Try.ntmps21
  go_wp2
  go_ret
  exact ⟨rfl, rfl⟩

set_option maxHeartbeats 400000 in
set_option maxRecDepth 100000 in
theorem nil_pop (w : World) : Calls Try.prog 20 #[.pointer none] w fun e w' => e = .returned (.tuple #[.string ⟨#[]⟩, .bool false]) ∧ w = w' := by
  go_enter Try.func20, Try.ntmps20
  go_wp2_with fail
  refine (nil_len _).mono ?_
  rintro e w' ⟨rfl, rfl⟩
  go_wp2_with fail
  go_ret2
  exact ⟨rfl, rfl⟩

/-- What is left where one was taken out. -/
theorem taken_perm {zs us vs : List Int} {m z : Int} {k : Nat} (hp : us.Perm zs) (hv : (m :: vs).Perm us) (hmin : ∀ u ∈ us, m ≤ u) (hz : zs[k]? = some z) (hzm : ∀ y ∈ zs, z ≤ y) : z = m ∧ vs.Perm (zs.take k ++ zs.drop (k + 1)) := by
  have e : z = m := by
    have h1 := hmin z (hp.symm.subset (List.mem_of_getElem? hz))
    have h2 := hzm m (hp.subset (hv.subset List.mem_cons_self))
    omega
  subst e
  refine ⟨rfl, ?_⟩
  obtain ⟨hk, rfl⟩ := List.getElem?_eq_some_iff.1 hz
  have h3 : zs = zs.take k ++ zs[k] :: zs.drop (k + 1) := by
    have := (List.take_append_drop k zs).symm
    rwa [List.drop_eq_getElem_cons hk] at this
  have h4 : zs.Perm (zs[k] :: (zs.take k ++ zs.drop (k + 1))) := by
    conv => lhs; rw [h3]
    exact List.perm_middle
  exact List.Perm.cons_inv ((hv.trans hp).trans h4)

end Go.Proofs.Ythgkhhgabpebmaa
