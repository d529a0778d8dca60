/- A message's content: what its cells and its lists say; messages that are read, messages that are owned. -/
import Derived.Test.YtgphlopbbmjdhaaSame
import Derived.Test.YtgphlopbbmjdhaaSend
import Derived.Laws.OwnMore
namespace Go.Proofs.Ytgphlopbbmjdhaa
open Go.RowKit Go.Conc
set_option linter.unusedVariables false
set_option linter.unusedSimpArgs false

structure Cont where
  kind : Int
  txn : Int
  page : Int
  dst : Int
  fast : Bool
  lsn : Int
  ws : List (ByteArray × Int)
  ps : List Int
  body : ByteArray

structure Plain (x : Qm) (c : Cont) : Prop where
  kind : x.kind = c.kind
  txn : x.txn = c.txn
  page : x.page = c.page
  dst : x.dst = c.dst
  fast : x.fast = c.fast
  lsn : x.lsn = c.lsn
  body : x.body = c.body

/-- A message whose lists may be read. -/
structure Reads (w : World) (x : Qm) (c : Cont) : Prop where
  plain : Plain x c
  ws : Src w x.wa x.wl x.wc 2 (wcells c.ws)
  ps : Src w x.pa x.pl x.pc 1 (pcells c.ps)

/-- A message whose lists are its own. -/
structure Holds (w : World) (base : Nat) (x : Qm) (c : Cont) : Prop where
  plain : Plain x c
  ws : w.ownsRow base 67 2 (.slice x.wa x.wl x.wc) x.wl (wcells c.ws)
  ps : w.ownsRow base 3 1 (.slice x.pa x.pl x.pc) x.pl (pcells c.ps)

def Qm.has (x : Qm) (b : Nat) : Prop := (Value.slice x.wa x.wl x.wc).ownBlock = some b ∨ (Value.slice x.pa x.pl x.pc).ownBlock = some b

def Cont.few (c : Cont) : Prop := c.ws.length ≤ 50 ∧ c.ps.length ≤ 50

theorem owns_src {w : World} {base size n c : Nat} {e : TypeId} {a : Option Addr} {xs : List Value} (h : w.ownsRow base e size (.slice a n c) n xs) (h1 : ∀ u ∈ xs, u.oneCell' = true) : Src w a n c size xs := by
  rcases h.2 with ⟨hv, hn⟩ | ⟨g, cap, cur, hv, _⟩
  · simp only [Value.slice.injEq] at hv
    obtain ⟨rfl, rfl, rfl⟩ := hv
    exact .inl ⟨rfl, rfl, rfl, by have := h.1; simpa using this⟩
  · simp only [Value.slice.injEq, true_and] at hv
    obtain ⟨rfl, rfl⟩ := hv
    exact .inr ⟨_, rfl, h.1, h.cells rfl, h1⟩

theorem Holds.reads {w : World} {base : Nat} {x : Qm} {c : Cont} (h : Holds w base x c) : Reads w x c := ⟨h.plain, owns_src h.ws (wcells_one _), owns_src h.ps (pcells_one _)⟩

theorem Holds.wl {w : World} {base : Nat} {x : Qm} {c : Cont} (h : Holds w base x c) : x.wl = c.ws.length ∧ x.pl = c.ps.length := by
  have h1 := h.ws.1
  have h2 := h.ps.1
  rw [wcells_length] at h1
  rw [pcells_length] at h2
  omega

theorem Reads.wl {w : World} {x : Qm} {c : Cont} (h : Reads w x c) : x.wl = c.ws.length ∧ x.pl = c.ps.length := by
  have h1 := h.ws.length
  have h2 := h.ps.length
  rw [wcells_length] at h1
  rw [pcells_length] at h2
  omega

theorem Holds.keep {S : Nat → Prop} {w w' : World} {base : Nat} {x : Qm} {c : Cont} (h : Holds w base x c) (k : Keep S w w') (hS : ∀ b, x.has b → ¬ S b) : Holds w' base x c :=
  ⟨h.plain, owns_keep h.ws k (fun j hj => hS _ (.inl hj)), owns_keep h.ps k (fun j hj => hS _ (.inr hj))⟩

theorem Holds.lt {w : World} {base : Nat} {x : Qm} {c : Cont} (h : Holds w base x c) {b : Nat} (hb : x.has b) : base ≤ b ∧ b < w.heap.size := by
  rcases hb with hb | hb
  · exact h.ws.lt _ hb
  · exact h.ps.lt _ hb

theorem Holds.base {w : World} {base base' : Nat} {x : Qm} {c : Cont} (h : Holds w base x c) (hb : base' ≤ base) : Holds w base' x c := ⟨h.plain, owns_base h.ws hb, owns_base h.ps hb⟩

theorem owns_cells {w : World} {base size n : Nat} {e : TypeId} {v : Value} {xs : List Value} (h : w.ownsRow base e size v n xs) {b : Nat} (hb : v.ownBlock = some b) : ∃ cur, w.heap[b]? = some (.cells cur e (0, 0)) := by
  rcases h.2 with ⟨rfl, _⟩ | ⟨g, cap, cur, rfl, _, hg, _⟩
  · simp [Value.ownBlock] at hb
  · simp [Value.ownBlock] at hb; subst hb; exact ⟨cur, hg⟩

/-- A message's lists lie in no channel, no net's head, no net's row. -/
theorem Holds.not_blk {w : World} {base : Nat} {x : Qm} {c : Cont} {L : Lay} {q : Nat → List Qm} (h : Holds w base x c) (hN : NetAt w L q) {b : Nat} (hb : x.has b) {i : Nat} (hi : i < 2 * L.n) : b ≠ L.c i := by
  obtain ⟨s, r, hc⟩ := hN.ch i hi
  intro e
  subst e
  rcases hb with hb | hb
  · obtain ⟨cur, hh⟩ := owns_cells h.ws hb
    rw [hh] at hc; simp at hc
  · obtain ⟨cur, hh⟩ := owns_cells h.ps hb
    rw [hh] at hc; simp at hc

theorem Holds.keep_net {w w' : World} {base : Nat} {x : Qm} {c : Cont} {L : Lay} {q : Nat → List Qm} {i : Nat} (h : Holds w base x c) (hN : NetAt w L q) (hi : i < 2 * L.n) (k : Keep (fun k => k = L.c i) w w') : Holds w' base x c :=
  h.keep k (fun b hb e => h.not_blk hN hb hi e)

theorem Reads.keep {S : Nat → Prop} {w w' : World} {x : Qm} {c : Cont} (h : Reads w x c) (k : Keep S w w') (hS : ∀ a, (x.wa = some a ∧ x.wl ≠ 0 ∨ x.pa = some a ∧ x.pl ≠ 0) → ¬ S a.block) : Reads w' x c :=
  ⟨h.plain, h.ws.keep k (fun a ha hl => hS a (.inl ⟨ha, hl⟩)), h.ps.keep k (fun a ha hl => hS a (.inr ⟨ha, hl⟩))⟩

theorem Reads.below {w wr : World} {x : Qm} {c : Cont} (h : Reads w x c) (hb : Below w.heap.size w wr) : Reads wr x c := ⟨h.plain, h.ws.below hb, h.ps.below hb⟩

theorem MsgOk.reads {w : World} {m : Qm} (h : MsgOk w m) : ∃ ws ps, Reads w m ⟨m.kind, m.txn, m.page, m.dst, m.fast, m.lsn, ws, ps, m.body⟩ := by
  obtain ⟨ws, ps, h1, h2⟩ := h
  exact ⟨ws, ps, ⟨⟨rfl, rfl, rfl, rfl, rfl, rfl, rfl⟩, h1, h2⟩⟩

/-- Same of two messages that say the same. -/
theorem same_reads (x y : Qm) (c : Cont) (w : World) (hx : Reads w x c) (hy : Reads w y c) (hf : c.few) :
    Calls Try.prog 19 #[.agg #[.int .i64 x.kind, .int .i64 x.txn, .int .i64 x.page, .int .i64 x.dst, .bool x.fast, .int .u64 x.lsn, .slice x.wa x.wl x.wc, .slice x.pa x.pl x.pc, .string x.body],
      .agg #[.int .i64 y.kind, .int .i64 y.txn, .int .i64 y.page, .int .i64 y.dst, .bool y.fast, .int .u64 y.lsn, .slice y.wa y.wl y.wc, .slice y.pa y.pl y.pc, .string y.body]] w fun e w' =>
      e = .returned (.bool true) ∧ Keep (fun _ => False) w w' := by
  obtain ⟨⟨a1, a2, a3, a4, a5, a6, a7⟩, hw, hp⟩ := hx
  obtain ⟨⟨b1, b2, b3, b4, b5, b6, b7⟩, hw', hp'⟩ := hy
  have e1 := hw.length
  have e2 := hw'.length
  have e3 := hp.length
  have e4 := hp'.length
  rw [wcells_length] at e1 e2
  rw [pcells_length] at e3 e4
  have f1 : x.wl = c.ws.length := by omega
  have f2 : y.wl = c.ws.length := by omega
  have f3 : x.pl = c.ps.length := by omega
  have f4 : y.pl = c.ps.length := by omega
  rw [a1, a2, a3, a4, a5, a6, a7, b1, b2, b3, b4, b5, b6, b7, f1, f2, f3, f4]
  rw [f1] at hw
  rw [f2] at hw'
  rw [f3] at hp
  rw [f4] at hp'
  exact same_yes _ _ _ _ _ _ _ _ _ _ _ _ _ _ _ _ _ _ _ w hw hw' hp hp' (by have := hf.1; omega) (by have := hf.2; omega)

/-- A message that says something, sent to a row that has room: what stands there behind it is its own. -/
theorem send_holds (L : Lay) (q : Nat → List Qm) (f t : Int) (i : Nat) (m : Qm) (c : Cont) (w : World) (h : NetAt w L q) (hr : rowIx L.n f t = some i) (hroom : (q i).length < 256) (hm : Reads w m c) (hf : c.few) :
    Calls Try.prog 11 #[.pointer (some ⟨L.b, 0, none⟩), .int .i64 f, .int .i64 t, .agg #[.int .i64 m.kind, .int .i64 m.txn, .int .i64 m.page, .int .i64 m.dst, .bool m.fast, .int .u64 m.lsn, .slice m.wa m.wl m.wc, .slice m.pa m.pl m.pc, .string m.body]] w fun e w' =>
      e = .returned (.int .i64 0) ∧ ∃ x, NetAt w' L (put q i (q i ++ [x])) ∧ Keep (fun k => k = L.c i) w w' ∧ Holds w' w.heap.size x c := by
  have hl := hm.wl
  refine (send_ok L q f t i m _ _ _ _ _ _ _ _ w h hr hroom hm.ws (by have := hf.1; omega) hm.ps (by have := hf.2; omega)).mono fun e w' ⟨he, g1, c1, g2, c2, hN, hK, h1, h2, _⟩ => ⟨he, _, hN, hK, ⟨?_, h1, h2⟩⟩
  exact ⟨hm.plain.kind, hm.plain.txn, hm.plain.page, hm.plain.dst, hm.plain.fast, hm.plain.lsn, hm.plain.body⟩

theorem send_full_reads (L : Lay) (q : Nat → List Qm) (f t : Int) (i : Nat) (m : Qm) (c : Cont) (w : World) (h : NetAt w L q) (hr : rowIx L.n f t = some i) (hfull : (q i).length = 256) (hm : Reads w m c) (hf : c.few) :
    Calls Try.prog 11 #[.pointer (some ⟨L.b, 0, none⟩), .int .i64 f, .int .i64 t, .agg #[.int .i64 m.kind, .int .i64 m.txn, .int .i64 m.page, .int .i64 m.dst, .bool m.fast, .int .u64 m.lsn, .slice m.wa m.wl m.wc, .slice m.pa m.pl m.pc, .string m.body]] w fun e w' =>
      e = .returned (.int .i64 7) ∧ Keep (fun _ => False) w w' := by
  have hl := hm.wl
  exact send_full L q f t i m _ _ _ _ _ _ _ _ w h hr hfull hm.ws (by have := hf.1; omega) hm.ps (by have := hf.2; omega)

end Go.Proofs.Ytgphlopbbmjdhaa
