/- Records and lists of records: their cells, what they say, where they may be read. -/
import Derived.Test.YthgkhhgabpebmaaRows
import Derived.Test.YthgkhhgabpebmaaHeap
import Derived.WalkSpells
import Derived.WalkLawsBesides
import Derived.BigQuiet
import Derived.Deep.QuietTactic
import Derived.Deep.RegionWith
import Derived.Deep.DeepCutAuto
import Derived.Lib.Hide
namespace Go.Proofs.Ythgkhhgabpebmaa
open Go.RowKit
set_option linter.unusedVariables false
set_option linter.unusedSimpArgs false

/-- A record as it lies: its numbers, its texts, and its two lists. -/
structure Rq where
  kind : Int
  lsn : Int
  txn : Int
  prev : Int
  undo : Int
  page : Int
  ak : Int
  akey : ByteArray
  aold : ByteArray
  anew : ByteArray
  ta : Option Addr
  tl : Nat
  tc : Nat
  da : Option Addr
  dl : Nat
  dc : Nat

def Rq.cells (x : Rq) : List Value := [.int .i64 x.kind, .int .u64 x.lsn, .int .i64 x.txn, .int .u64 x.prev, .int .u64 x.undo, .int .i64 x.page, .int .i64 x.ak, .string x.akey, .string x.aold, .string x.anew, .slice x.ta x.tl x.tc, .slice x.da x.dl x.dc]

/-- What a record says. -/
structure RC where
  kind : Int
  lsn : Int
  txn : Int
  prev : Int
  undo : Int
  page : Int
  ak : Int
  akey : ByteArray
  aold : ByteArray
  anew : ByteArray
  ts : List (Int × Int × Int)
  ds : List (Int × Int)

def tcells (ts : List (Int × Int × Int)) : List Value := ts.flatMap fun p => [.int .i64 p.1, .int .i64 p.2.1, .int .u64 p.2.2]
def dcells (ds : List (Int × Int)) : List Value := ds.flatMap fun p => [.int .i64 p.1, .int .u64 p.2]

theorem tcells_length (ts : List (Int × Int × Int)) : (tcells ts).length = ts.length * 3 := by
  induction ts with
  | nil => rfl
  | cons p r ih => simp only [tcells, List.flatMap_cons, List.length_append] at ih ⊢; rw [ih]; simp; omega
theorem dcells_length (ds : List (Int × Int)) : (dcells ds).length = ds.length * 2 := by
  induction ds with
  | nil => rfl
  | cons p r ih => simp only [dcells, List.flatMap_cons, List.length_append] at ih ⊢; rw [ih]; simp; omega

theorem tcells_one (ts : List (Int × Int × Int)) : ∀ u ∈ tcells ts, u.oneCell' = true := by
  intro u hu
  simp only [tcells, List.mem_flatMap] at hu
  obtain ⟨p, _, hp⟩ := hu
  simp at hp
  rcases hp with rfl | rfl | rfl <;> rfl
theorem dcells_one (ds : List (Int × Int)) : ∀ u ∈ dcells ds, u.oneCell' = true := by
  intro u hu
  simp only [dcells, List.mem_flatMap] at hu
  obtain ⟨p, _, hp⟩ := hu
  simp at hp
  rcases hp with rfl | rfl <;> rfl

theorem tcells_at : ∀ (ts : List (Int × Int × Int)) (i : Nat) (p : Int × Int × Int), ts[i]? = some p → (tcells ts)[i * 3]? = some (.int .i64 p.1) ∧ (tcells ts)[i * 3 + 1]? = some (.int .i64 p.2.1) ∧ (tcells ts)[i * 3 + 2]? = some (.int .u64 p.2.2)
  | q :: r, 0, p, h => by simp at h; subst h; simp [tcells]
  | q :: r, i + 1, p, h => by
    have := tcells_at r i p (by simpa using h)
    have e : tcells (q :: r) = .int .i64 q.1 :: .int .i64 q.2.1 :: .int .u64 q.2.2 :: tcells r := rfl
    rw [e, show (i + 1) * 3 = i * 3 + 1 + 1 + 1 by omega]
    simpa using this

theorem dcells_at : ∀ (ds : List (Int × Int)) (i : Nat) (p : Int × Int), ds[i]? = some p → (dcells ds)[i * 2]? = some (.int .i64 p.1) ∧ (dcells ds)[i * 2 + 1]? = some (.int .u64 p.2)
  | q :: r, 0, p, h => by simp at h; subst h; simp [dcells]
  | q :: r, i + 1, p, h => by
    have := dcells_at r i p (by simpa using h)
    have e : dcells (q :: r) = .int .i64 q.1 :: .int .u64 q.2 :: dcells r := rfl
    rw [e, show (i + 1) * 2 = i * 2 + 1 + 1 by omega]
    simpa using this

structure Plain (x : Rq) (c : RC) : Prop where
  kind : x.kind = c.kind
  lsn : x.lsn = c.lsn
  txn : x.txn = c.txn
  prev : x.prev = c.prev
  undo : x.undo = c.undo
  page : x.page = c.page
  ak : x.ak = c.ak
  akey : x.akey = c.akey
  aold : x.aold = c.aold
  anew : x.anew = c.anew

/-- A record whose lists may be read. -/
structure Reads (w : World) (x : Rq) (c : RC) : Prop where
  plain : Plain x c
  ts : Src w x.ta x.tl x.tc 3 (tcells c.ts)
  ds : Src w x.da x.dl x.dc 2 (dcells c.ds)

theorem Reads.len {w : World} {x : Rq} {c : RC} (h : Reads w x c) : x.tl = c.ts.length ∧ x.dl = c.ds.length := by
  have h1 := h.ts.length
  have h2 := h.ds.length
  rw [tcells_length] at h1
  rw [dcells_length] at h2
  omega

theorem Reads.keep {S : Nat → Prop} {w w' : World} {x : Rq} {c : RC} (h : Reads w x c) (k : Keep S w w') (hS : ∀ a, (x.ta = some a ∧ x.tl ≠ 0 ∨ x.da = some a ∧ x.dl ≠ 0) → ¬ S a.block) : Reads w' x c :=
  ⟨h.plain, h.ts.keep k (fun a ha hl => hS a (.inl ⟨ha, hl⟩)), h.ds.keep k (fun a ha hl => hS a (.inr ⟨ha, hl⟩))⟩

theorem Reads.below {w wr : World} {x : Rq} {c : RC} (h : Reads w x c) (hb : Below w.heap.size w wr) : Reads wr x c := ⟨h.plain, h.ts.below hb, h.ds.below hb⟩

/-- Where a record's cells lie. -/
structure RecCells (w : World) (b o : Nat) (x : Rq) : Prop where
  c0 : w.cell? ⟨b, o, none⟩ = some (.int .i64 x.kind)
  c1 : w.cell? ⟨b, o + 1, none⟩ = some (.int .u64 x.lsn)
  c2 : w.cell? ⟨b, o + 2, none⟩ = some (.int .i64 x.txn)
  c3 : w.cell? ⟨b, o + 3, none⟩ = some (.int .u64 x.prev)
  c4 : w.cell? ⟨b, o + 4, none⟩ = some (.int .u64 x.undo)
  c5 : w.cell? ⟨b, o + 5, none⟩ = some (.int .i64 x.page)
  c6 : w.cell? ⟨b, o + 6, none⟩ = some (.int .i64 x.ak)
  c7 : w.cell? ⟨b, o + 7, none⟩ = some (.string x.akey)
  c8 : w.cell? ⟨b, o + 8, none⟩ = some (.string x.aold)
  c9 : w.cell? ⟨b, o + 9, none⟩ = some (.string x.anew)
  c10 : w.cell? ⟨b, o + 10, none⟩ = some (.slice x.ta x.tl x.tc)
  c11 : w.cell? ⟨b, o + 11, none⟩ = some (.slice x.da x.dl x.dc)

theorem RecCells.of_at {w : World} {b o : Nat} {x : Rq} (h : ∀ i u, x.cells[i]? = some u → w.cell? ⟨b, o + i, none⟩ = some u) : RecCells w b o x :=
  ⟨h 0 _ rfl, h 1 _ rfl, h 2 _ rfl, h 3 _ rfl, h 4 _ rfl, h 5 _ rfl, h 6 _ rfl, h 7 _ rfl, h 8 _ rfl, h 9 _ rfl, h 10 _ rfl, h 11 _ rfl⟩

theorem RecCells.keep {S : Nat → Prop} {w w' : World} {b o : Nat} {x : Rq} (h : RecCells w b o x) (k : Keep S w w') (hS : ¬ S b) : RecCells w' b o x :=
  ⟨k.got h.c0 hS, k.got h.c1 hS, k.got h.c2 hS, k.got h.c3 hS, k.got h.c4 hS, k.got h.c5 hS, k.got h.c6 hS, k.got h.c7 hS, k.got h.c8 hS, k.got h.c9 hS, k.got h.c10 hS, k.got h.c11 hS⟩

theorem RecCells.lt {w : World} {b o : Nat} {x : Rq} (h : RecCells w b o x) : b < w.heap.size := World.block_lt_of_cell? _ _ h.c0

theorem RecCells.below {w wr : World} {b o : Nat} {x : Rq} (h : RecCells w b o x) (hb : Below w.heap.size w wr) : RecCells wr b o x :=
  h.keep (Keep.ofBelow hb) (by have := h.lt; omega)

theorem Rq.one (x : Rq) : ∀ u ∈ x.cells, u.oneCell' = true := by
  intro u hu
  simp [Rq.cells] at hu
  rcases hu with rfl | rfl | rfl | rfl | rfl | rfl | rfl | rfl | rfl | rfl | rfl | rfl <;> rfl

def allcells (xs : List Rq) : List Value := xs.flatMap Rq.cells

theorem allcells_append (xs ys : List Rq) : allcells (xs ++ ys) = allcells xs ++ allcells ys := by simp [allcells]
theorem allcells_snoc (xs : List Rq) (x : Rq) : allcells (xs ++ [x]) = allcells xs ++ x.cells := by simp [allcells]
theorem allcells_length (xs : List Rq) : (allcells xs).length = xs.length * 12 := by
  induction xs with
  | nil => rfl
  | cons x r ih => simp only [allcells, List.flatMap_cons, List.length_append] at ih ⊢; rw [ih]; simp [Rq.cells]; omega
theorem allcells_one (xs : List Rq) : ∀ u ∈ allcells xs, u.oneCell' = true := by
  intro u hu
  simp only [allcells, List.mem_flatMap] at hu
  obtain ⟨x, _, hx⟩ := hu
  exact x.one u hx

theorem allcells_at : ∀ (xs : List Rq) (j : Nat) (x : Rq), xs[j]? = some x → ∀ i u, x.cells[i]? = some u → (allcells xs)[j * 12 + i]? = some u
  | y :: xs, 0, x, h, i, u, hu => by
    simp at h; subst h
    have hi : i < y.cells.length := (List.getElem?_eq_some_iff.1 hu).1
    simp only [allcells, List.flatMap_cons, Nat.zero_mul, Nat.zero_add]
    rw [List.getElem?_append_left hi]; exact hu
  | y :: xs, j + 1, x, h, i, u, hu => by
    have := allcells_at xs j x (by simpa using h) i u hu
    simp only [allcells, List.flatMap_cons] at this ⊢
    rw [List.getElem?_append_right (by simp [Rq.cells]; omega)]
    rw [show (j + 1) * 12 + i - y.cells.length = j * 12 + i by simp [Rq.cells]; omega]
    exact this

/-- Two lists, place by place. -/
structure Each (R : Rq → RC → Prop) (xs : List Rq) (cs : List RC) : Prop where
  len : xs.length = cs.length
  get : ∀ (j : Nat) (x : Rq) (c : RC), xs[j]? = some x → cs[j]? = some c → R x c

theorem Each.nil (R : Rq → RC → Prop) : Each R [] [] := ⟨rfl, fun j x c h => by simp at h⟩
theorem Each.snoc {R : Rq → RC → Prop} {xs : List Rq} {cs : List RC} {x : Rq} {c : RC} (h : Each R xs cs) (hx : R x c) : Each R (xs ++ [x]) (cs ++ [c]) := by
  refine ⟨by simp [h.len], fun j y d hy hd => ?_⟩
  rw [List.getElem?_append] at hy hd
  rw [h.len] at hy
  split at hy
  · rename_i hj
    rw [if_pos hj] at hd
    exact h.get j y d hy hd
  · rename_i hj
    rw [if_neg hj] at hd
    rcases hk : j - cs.length with _ | n
    · rw [hk] at hy hd
      simp at hy hd
      subst hy hd
      exact hx
    · rw [hk] at hy; simp at hy
theorem Each.mono {R R' : Rq → RC → Prop} {xs : List Rq} {cs : List RC} (h : Each R xs cs) (hR : ∀ x c, x ∈ xs → R x c → R' x c) : Each R' xs cs :=
  ⟨h.len, fun j x c hx hc => hR x c (List.mem_of_getElem? hx) (h.get j x c hx hc)⟩
theorem Each.other {R : Rq → RC → Prop} {xs : List Rq} {cs : List RC} (h : Each R xs cs) {j : Nat} {x : Rq} (hx : xs[j]? = some x) : ∃ c, cs[j]? = some c ∧ R x c := by
  have hj : j < xs.length := (List.getElem?_eq_some_iff.1 hx).1
  have hj' : j < cs.length := by rw [← h.len]; exact hj
  exact ⟨cs[j], List.getElem?_eq_getElem hj', h.get j x _ hx (List.getElem?_eq_getElem hj')⟩
theorem Each.that {R : Rq → RC → Prop} {xs : List Rq} {cs : List RC} (h : Each R xs cs) {j : Nat} {c : RC} (hc : cs[j]? = some c) : ∃ x, xs[j]? = some x ∧ R x c := by
  have hj : j < cs.length := (List.getElem?_eq_some_iff.1 hc).1
  have hj' : j < xs.length := by rw [h.len]; exact hj
  exact ⟨xs[j], List.getElem?_eq_getElem hj', h.get j _ c (List.getElem?_eq_getElem hj') hc⟩
theorem Each.drop {R : Rq → RC → Prop} {xs : List Rq} {cs : List RC} (h : Each R xs cs) (n : Nat) : Each R (xs.drop n) (cs.drop n) :=
  ⟨by simp [h.len], fun j x c hx hc => by rw [List.getElem?_drop] at hx hc; exact h.get _ x c hx hc⟩
theorem Each.mem {R : Rq → RC → Prop} {xs : List Rq} {cs : List RC} (h : Each R xs cs) {x : Rq} (hx : x ∈ xs) : ∃ c, c ∈ cs ∧ R x c := by
  obtain ⟨j, hj, rfl⟩ := List.mem_iff_getElem.1 hx
  obtain ⟨c, hc, hr⟩ := h.other (List.getElem?_eq_getElem hj)
  exact ⟨c, List.mem_of_getElem? hc, hr⟩

/-- A list of records that may be read, and what they say. -/
structure Recs (w : World) (a : Option Addr) (n : Nat) (cs : List RC) : Prop where
  len : cs.length = n
  get : ∀ (j : Nat) (c : RC), cs[j]? = some c → ∃ g off x, a = some ⟨g, off, none⟩ ∧ RecCells w g (off + j * 12) x ∧ Reads w x c

theorem Recs.nil (w : World) (a : Option Addr) : Recs w a 0 [] := ⟨rfl, fun j c h => by simp at h⟩

theorem Recs.below {w wr : World} {a : Option Addr} {n : Nat} {cs : List RC} (h : Recs w a n cs) (hb : Below w.heap.size w wr) : Recs wr a n cs :=
  ⟨h.len, fun j c hc => by
    obtain ⟨g, off, x, ha, hm, hr⟩ := h.get j c hc
    exact ⟨g, off, x, ha, hm.below hb, hr.below hb⟩⟩

theorem Recs.keep {w w' : World} {a : Option Addr} {n : Nat} {cs : List RC} (h : Recs w a n cs) (k : Keep (fun _ => False) w w') : Recs w' a n cs := h.below (k.below (Nat.le_refl _) (fun _ _ h => h))

/-- A list owned, whose records may be read. -/
theorem owns_recs {w : World} {base n : Nat} {a : Option Addr} {cap : Nat} {xs : List Rq} {cs : List RC} (h : w.ownsRow base 59 12 (.slice a n cap) n (allcells xs)) (he : Each (Reads w) xs cs) : Recs w a n cs := by
  have hl := h.1
  rw [allcells_length] at hl
  have hn : xs.length = n := by omega
  refine ⟨by rw [← he.len]; exact hn, fun j c hc => ?_⟩
  obtain ⟨x, hx, hr⟩ := he.that hc
  have hj : j < n := by rw [← hn]; exact (List.getElem?_eq_some_iff.1 hx).1
  rcases h.2 with ⟨hv, h0⟩ | ⟨g, cap', cur, hv, _⟩
  · omega
  · simp only [Value.slice.injEq, true_and] at hv
    obtain ⟨rfl, rfl⟩ := hv
    refine ⟨g, 0, x, rfl, .of_at fun i u hu => ?_, hr⟩
    have := h.cells rfl _ _ (allcells_at xs j x hx i u hu)
    rw [Go.WideShapes.add_plain] at this
    rwa [Nat.add_assoc]

theorem info59 : (Try.prog.info? 59).map (fun i => (i.zero, i.size, i.bytes)) = some (some (.agg #[.int .i64 0, .int .u64 0, .int .i64 0, .int .u64 0, .int .u64 0, .int .i64 0, .int .i64 0, .string ByteArray.empty, .string ByteArray.empty, .string ByteArray.empty, .slice none 0 0, .slice none 0 0]), 12, 152) := by kernel_rfl
theorem info63 : (Try.prog.info? 63).map (fun i => (i.zero, i.size, i.bytes)) = some (some (.agg #[.int .i64 0, .int .i64 0, .int .u64 0]), 3, 24) := by kernel_rfl
theorem info65 : (Try.prog.info? 65).map (fun i => (i.zero, i.size, i.bytes)) = some (some (.agg #[.int .i64 0, .int .u64 0]), 2, 16) := by kernel_rfl
theorem info25 : (Try.prog.info? 25).map (fun i => (i.zero, i.size, i.bytes)) = some (some (.slice none 0 0), 1, 24) := by kernel_rfl
theorem info3 : (Try.prog.info? 3).map (fun i => (i.zero, i.size, i.bytes)) = some (some (.int .i64 0), 1, 8) := by kernel_rfl

end Go.Proofs.Ythgkhhgabpebmaa
