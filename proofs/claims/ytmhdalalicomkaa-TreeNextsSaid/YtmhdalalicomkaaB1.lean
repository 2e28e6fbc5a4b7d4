/- The tree of losers as a plain machine, and how it lies in memory. -/
import Derived.Test.YtmhdalalicomkaaB0
namespace Go.Proofs.Ytmhdalalicomkaa
open Go.RowKit

/-- An element: its key, its name. -/
abbrev It := Int × Int
def It.val (x : It) : Value := .agg #[.int .i64 x.1, .int .i64 x.2]

/-- A leaf: the source, the element in hand, whether there is one. -/
structure Leaf where
  fn : Value
  hand : It
  has : Bool
instance : Inhabited Leaf := ⟨⟨.nilFunc, (0, 0), false⟩⟩

/-- The tree's own state. -/
structure TS where
  ord : Value
  leaves : List Leaf
  losers : List Nat
  win : Nat
  begun : Bool
  owed : Bool
  cmp : Int
  err : Int
  at_ : Nat

/-- What the tree stands on: sources and an order, each of which may have a state (in σ). -/
structure Sys (σ : Type) where
  src : σ → Nat → (It × Bool × Int) × σ
  ord : σ → It → It → Int × σ

variable {σ : Type}

def beatsF (E : Sys σ) (lv : List Leaf) (cmp : Int) (s : σ) (a b : Nat) : Bool × Int × σ :=
  if (lv.getD a default).has && (lv.getD b default).has then
    let r := E.ord s (lv.getD a default).hand (lv.getD b default).hand
    (decide (r.1 < 0) || (r.1 == 0 && decide (a < b)), wrap64 (cmp + 1), r.2)
  else ((lv.getD a default).has || (!(lv.getD b default).has && decide (a < b)), cmp, s)

def askF (E : Sys σ) (S : TS) (s : σ) (i : Nat) : Bool × TS × σ :=
  let r := E.src s i
  if r.1.2.2 ≠ 0 then (false, { S with err := r.1.2.2, at_ := i }, r.2)
  else (true, { S with leaves := S.leaves.set i { S.leaves.getD i default with hand := if r.1.2.1 then r.1.1 else (0, 0), has := r.1.2.1 } }, r.2)

/-- The winner below a node: fuel, node. -/
def playF (E : Sys σ) (lv : List Leaf) : Nat → Nat → List Nat → Int → σ → Nat × List Nat × Int × σ
  | 0, node, ls, cmp, s => (node - lv.length, ls, cmp, s)
  | f + 1, node, ls, cmp, s =>
    if lv.length ≤ node then (node - lv.length, ls, cmp, s)
    else
      let p := playF E lv f (2 * node) ls cmp s
      let q := playF E lv f (2 * node + 1) p.2.1 p.2.2.1 p.2.2.2
      let r := beatsF E lv q.2.2.1 q.2.2.2 q.1 p.1
      if r.1 then (q.1, q.2.1.set node p.1, r.2.1, r.2.2) else (p.1, q.2.1.set node q.1, r.2.1, r.2.2)

/-- A leaf with a new hand goes up from a node: fuel, node, the leaf. -/
def upF (E : Sys σ) (lv : List Leaf) : Nat → Nat → Nat → List Nat → Int → σ → Nat × List Nat × Int × σ
  | 0, _, i, ls, cmp, s => (i, ls, cmp, s)
  | f + 1, node, i, ls, cmp, s =>
    if node = 0 then (i, ls, cmp, s)
    else
      let r := beatsF E lv cmp s (ls.getD node 0) i
      if r.1 then upF E lv f (node / 2) (ls.getD node 0) (ls.set node i) r.2.1 r.2.2 else upF E lv f (node / 2) i ls r.2.1 r.2.2

def replayF (E : Sys σ) (S : TS) (s : σ) (i : Nat) : TS × σ :=
  let r := upF E S.leaves 7 ((i + S.leaves.length) / 2) i S.losers S.cmp s
  ({ S with win := r.1, losers := r.2.1, cmp := r.2.2.1 }, r.2.2.2)

/-- All sources are asked, from i on (n of them): true: none has failed. -/
def askAllF (E : Sys σ) : Nat → TS → σ → Nat → Bool × TS × σ
  | 0, S, s, _ => (true, S, s)
  | n + 1, S, s, i => let r := askF E S s i; if r.1 then askAllF E n r.2.1 r.2.2 (i + 1) else r

def beginF (E : Sys σ) (S : TS) (s : σ) : Bool × TS × σ :=
  let r := askAllF E S.leaves.length S s 0
  if r.1 then
    let S1 : TS := { r.2.1 with begun := true }
    if 0 < S1.leaves.length then
      let p := playF E S1.leaves 6 1 S1.losers S1.cmp r.2.2
      (true, { S1 with win := p.1, losers := p.2.1, cmp := p.2.2.1 }, p.2.2.2)
    else (true, S1, r.2.2)
  else r

/-- What Next answers: the element, whose it is, is there one, the error. -/
abbrev Ans := It × Nat × Bool × Int

def frontF (S : TS) (s : σ) : Ans × TS × σ :=
  if S.leaves.length = 0 ∨ (S.leaves.getD S.win default).has = false then (((0, 0), 0, false, 0), S, s)
  else (((S.leaves.getD S.win default).hand, S.win, true, 0), { S with owed := true }, s)

def nextF (E : Sys σ) (S : TS) (s : σ) : Ans × TS × σ :=
  if S.err ≠ 0 then (((0, 0), S.at_, false, S.err), S, s)
  else if S.begun = false then
    let r := beginF E S s
    if r.1 then frontF r.2.1 r.2.2 else (((0, 0), r.2.1.at_, false, r.2.1.err), r.2.1, r.2.2)
  else if S.owed then
    let r := askF E { S with owed := false } s S.win
    if r.1 then let q := replayF E r.2.1 r.2.2 S.win; frontF q.1 q.2
    else (((0, 0), r.2.1.at_, false, r.2.1.err), r.2.1, r.2.2)
  else frontF S s

/-! ### In memory -/
def leafRow (C : Array Value) (lv : List Leaf) : Prop :=
  lv.length * 4 ≤ C.size ∧ ∀ i, i < lv.length →
    C[i * 4]? = some (lv.getD i default).fn ∧ C[i * 4 + 1]? = some (.int .i64 (lv.getD i default).hand.1) ∧
    C[i * 4 + 2]? = some (.int .i64 (lv.getD i default).hand.2) ∧ C[i * 4 + 3]? = some (.bool (lv.getD i default).has)
def natRow (D : Array Value) (ls : List Nat) : Prop := D.size = ls.length ∧ ∀ i, i < ls.length → D[i]? = some (.int .i64 (ls.getD i 0 : Nat))

def treeCells (S : TS) (la : Option Addr) (kc M : Nat) : Array Value :=
  #[S.ord, .slice la S.leaves.length kc, .slice (some ⟨M, 0, none⟩) S.leaves.length S.leaves.length, .int .i64 (S.win : Nat), .bool S.begun, .bool S.owed, .int .i64 S.cmp, .int .i64 S.err, .int .i64 (S.at_ : Nat)]

/-- The tree at block t, its leaves in block L, its losers in block M. -/
structure TreeAt (w : World) (t L M : Nat) (S : TS) : Prop where
  ntL : 0 < S.leaves.length → t ≠ L
  ntM : t ≠ M
  nLM : L ≠ M
  len : S.losers.length = S.leaves.length
  few : S.leaves.length ≤ 64
  own : ∃ la kc, w.heap[t]? = some (.cells (treeCells S la kc M) 77 (0, 0)) ∧ (0 < S.leaves.length → la = some ⟨L, 0, none⟩) ∧ S.leaves.length ≤ kc
  leaves : 0 < S.leaves.length → ∃ C, w.heap[L]? = some (.cells C 81 (0, 0)) ∧ leafRow C S.leaves
  losers : ∃ D, w.heap[M]? = some (.cells D 3 (0, 0)) ∧ natRow D S.losers
  ltL : L < w.heap.size

theorem TreeAt.keep {w w' : World} {t L M : Nat} {S : TS} {K : Nat → Prop} (h : TreeAt w t L M S) (k : Keep K w w') (ht : K t) (hL : K L) (hM : K M) : TreeAt w' t L M S := by
  obtain ⟨a, b, c, d, e, ⟨la, kc, f, g, g'⟩, i, ⟨D, j, j'⟩, l⟩ := h
  refine ⟨a, b, c, d, e, ⟨la, kc, k.heap ht f, g, g'⟩, fun hp => ?_, ⟨D, k.heap hM j, j'⟩, Nat.lt_of_lt_of_le l k.size⟩
  obtain ⟨C, i1, i2⟩ := i hp
  exact ⟨C, k.heap hL i1, i2⟩

theorem TreeAt.put {w : World} {t L M : Nat} {S : TS} (h : TreeAt w t L M S) (j : Nat) (v : Value) (S' : TS) (hl : S'.leaves = S.leaves) (hs : S'.losers = S.losers)
    (hc : ∀ la kc, (treeCells S la kc M).setIfInBounds j v = treeCells S' la kc M) : TreeAt (w.setCell ⟨t, j, none⟩ v) t L M S' := by
  obtain ⟨a, b, c, d, e, ⟨la, kc, f, g, g'⟩, i, ⟨D, j1, j2⟩, l⟩ := h
  refine ⟨by rw [hl]; exact a, b, c, by rw [hl, hs]; exact d, by rw [hl]; exact e, ⟨la, kc, ?_, by rw [hl]; exact g, by rw [hl]; exact g'⟩, ?_, ⟨D, set_far j1 (Ne.symm b) _, by rw [hs]; exact j2⟩, by simpa [World.setCell] using l⟩
  · rw [set_blk f, hc]
  · rw [hl]
    intro hp
    obtain ⟨C, i1, i2⟩ := i hp
    exact ⟨C, set_far i1 (Ne.symm (a hp)) _, i2⟩
theorem TreeAt.drew {w : World} {t L M : Nat} {S : TS} (h : TreeAt w t L M S) : TreeAt w.drew t L M S := h.keep (K := fun _ => True) (Keep.refl _ _).drew trivial trivial trivial
theorem TreeAt.drewN {w : World} {t L M : Nat} {S : TS} (h : TreeAt w t L M S) (n : Nat) : TreeAt (w.drewN n) t L M S := h.keep (K := fun _ => True) ((Keep.refl _ _).drewN n) trivial trivial trivial
theorem TreeAt.alloc {w : World} {t L M : Nat} {S : TS} (h : TreeAt w t L M S) (o : Obj) : TreeAt (w.alloc o) t L M S := h.keep (K := fun _ => True) ((Keep.refl _ _).alloc o) trivial trivial trivial

/-- What a walk wants of the tree's own block. -/
theorem TreeAt.cells {w : World} {t L M : Nat} {S : TS} (h : TreeAt w t L M S) (hp : 0 < S.leaves.length) : ∃ kc,
    w.cell? ⟨t, 0, none⟩ = some S.ord ∧ w.cell? ⟨t, 1, none⟩ = some (.slice (some ⟨L, 0, none⟩) S.leaves.length kc) ∧
    w.cell? ⟨t, 2, none⟩ = some (.slice (some ⟨M, 0, none⟩) S.leaves.length S.leaves.length) ∧ w.cell? ⟨t, 3, none⟩ = some (.int .i64 (S.win : Nat)) ∧
    w.cell? ⟨t, 4, none⟩ = some (.bool S.begun) ∧ w.cell? ⟨t, 5, none⟩ = some (.bool S.owed) ∧ w.cell? ⟨t, 6, none⟩ = some (.int .i64 S.cmp) ∧
    w.cell? ⟨t, 7, none⟩ = some (.int .i64 S.err) ∧ w.cell? ⟨t, 8, none⟩ = some (.int .i64 (S.at_ : Nat)) := by
  obtain ⟨la, kc, f, g, _⟩ := h.own
  obtain rfl := g hp
  refine ⟨kc, ?_⟩
  refine ⟨?_, ?_, ?_, ?_, ?_, ?_, ?_, ?_, ?_⟩ <;> (rw [cell_blk f]; rfl)
theorem TreeAt.frozen {w : World} {t L M : Nat} {S : TS} (h : TreeAt w t L M S) (j : Nat) : w.frozen? ⟨t, j, none⟩ = false := by
  obtain ⟨la, kc, f, g, _⟩ := h.own
  exact frozen_blk f j
theorem TreeAt.leaf {w : World} {t L M : Nat} {S : TS} (h : TreeAt w t L M S) (i : Nat) (hi : i < S.leaves.length) :
    w.cell? ⟨L, i * 4, none⟩ = some (S.leaves.getD i default).fn ∧ w.cell? ⟨L, i * 4 + 1, none⟩ = some (.int .i64 (S.leaves.getD i default).hand.1) ∧
    w.cell? ⟨L, i * 4 + 2, none⟩ = some (.int .i64 (S.leaves.getD i default).hand.2) ∧ w.cell? ⟨L, i * 4 + 3, none⟩ = some (.bool (S.leaves.getD i default).has) := by
  obtain ⟨C, h1, h2⟩ := h.leaves (by omega)
  obtain ⟨a, b, c, d⟩ := h2.2 i hi
  exact ⟨(cell_blk h1 _).trans a, (cell_blk h1 _).trans b, (cell_blk h1 _).trans c, (cell_blk h1 _).trans d⟩
theorem TreeAt.leafFree {w : World} {t L M : Nat} {S : TS} (h : TreeAt w t L M S) (hp : 0 < S.leaves.length) (j : Nat) : w.frozen? ⟨L, j, none⟩ = false := by
  obtain ⟨C, h1, h2⟩ := h.leaves hp
  exact frozen_blk h1 j
theorem TreeAt.loser {w : World} {t L M : Nat} {S : TS} (h : TreeAt w t L M S) (i : Nat) (hi : i < S.losers.length) : w.cell? ⟨M, i, none⟩ = some (.int .i64 (S.losers.getD i 0 : Nat)) := by
  obtain ⟨D, h1, h2⟩ := h.losers
  exact (cell_blk h1 _).trans (h2.2 i hi)
theorem TreeAt.loserFree {w : World} {t L M : Nat} {S : TS} (h : TreeAt w t L M S) (j : Nat) : w.frozen? ⟨M, j, none⟩ = false := by
  obtain ⟨D, h1, h2⟩ := h.losers
  exact frozen_blk h1 j
theorem TreeAt.putLoser {w : World} {t L M : Nat} {S : TS} (h : TreeAt w t L M S) (i v : Nat) : TreeAt (w.setCell ⟨M, i, none⟩ (.int .i64 v)) t L M { S with losers := S.losers.set i v } := by
  obtain ⟨a, b, c, d, e, ⟨la, kc, f, g, g'⟩, i', ⟨D, j1, j2, j3⟩, l⟩ := h
  refine ⟨a, b, c, by simpa using d, e, ⟨la, kc, set_far f b _, g, g'⟩, ?_, ⟨_, set_blk j1 _ _, by simpa using j2, ?_⟩, by simpa [World.setCell] using l⟩
  · intro hp
    obtain ⟨C, i1, i2⟩ := i' hp
    exact ⟨C, set_far i1 c _, i2⟩
  · intro q hq
    simp only [List.length_set] at hq
    by_cases hqi : q = i
    · subst hqi
      simp only [Array.getElem?_setIfInBounds, if_true]
      rw [if_pos (by omega)]
      simp [List.getD_eq_getElem?_getD, hq]
    · rw [Array.getElem?_setIfInBounds_ne (Ne.symm hqi)]
      rw [j3 q hq]
      simp [List.getD_eq_getElem?_getD, List.getElem?_set_ne (Ne.symm hqi)]

theorem TreeAt.ltM {w : World} {t L M : Nat} {S : TS} (h : TreeAt w t L M S) : M < w.heap.size := by
  obtain ⟨D, h1, _⟩ := h.losers
  exact lt_of_heap h1
theorem TreeAt.ltT {w : World} {t L M : Nat} {S : TS} (h : TreeAt w t L M S) : t < w.heap.size := by
  obtain ⟨la, kc, h1, _⟩ := h.own
  exact lt_of_heap h1

end Go.Proofs.Ytmhdalalicomkaa
