/- The document's play: in memory, and its asking. -/
import Derived.Test.YtmhdalalicomkaaC6
namespace Go.Proofs.Ytmhdalalicomkaa
open Go.RowKit

/-- The document's tree's state. -/
structure PS where
  given : List Nat
  hand : List Bool
  begun : Bool
  owed : Int
  asked : List Nat
  at_ : Nat
  err : Int

def playAskF (fd : List Feed) (P : PS) (i : Nat) : PS :=
  if P.given.getD i 0 < (fd.getD i default).items.length then { P with asked := P.asked ++ [i], given := P.given.set i (P.given.getD i 0 + 1), hand := (P.hand.set i false).set i true }
  else if (fd.getD i default).fail = 0 then { P with asked := P.asked ++ [i], hand := P.hand.set i false }
  else { P with asked := P.asked ++ [i], hand := P.hand.set i false, err := (fd.getD i default).fail, at_ := i }

def boolRow (D : Array Value) (ls : List Bool) : Prop := D.size = ls.length ∧ ∀ i, i < ls.length → D[i]? = some (.bool (ls.getD i false))

/-- Where the play lies: its struct, the givens, the hands; its own row lies from base on; the feeds below B1. -/
structure PGeo where
  p : Nat
  A : Nat
  H : Nat
  base : Nat
  B1 : Nat
  sa : Option Addr
  k : Nat
  kc : Nat
structure PGeo.Ok (g : PGeo) : Prop where
  pA : g.p ≠ g.A
  pH : g.p ≠ g.H
  AH : g.A ≠ g.H
  p : g.B1 ≤ g.p ∧ g.p < g.base
  A : g.B1 ≤ g.A ∧ g.A < g.base
  H : g.B1 ≤ g.H ∧ g.H < g.base

def playCells (g : PGeo) (P : PS) (av : Value) : Array Value :=
  #[.slice g.sa g.k g.kc, .slice (some ⟨g.A, 0, none⟩) g.k g.k, .slice (some ⟨g.H, 0, none⟩) g.k g.k, .bool P.begun, .int .i64 P.owed, av, .int .i64 (P.at_ : Nat), .int .i64 P.err]

structure PlayAt (w : World) (g : PGeo) (P : PS) (av : Value) : Prop where
  lenG : P.given.length = g.k
  lenH : P.hand.length = g.k
  blk : w.heap[g.p]? = some (.cells (playCells g P av) 45 (0, 0))
  own : w.ownsRow g.base 3 1 av P.asked.length (natVals P.asked)
  given : ∃ D, w.heap[g.A]? = some (.cells D 3 (0, 0)) ∧ natRow D P.given
  hand : ∃ D, w.heap[g.H]? = some (.cells D 4 (0, 0)) ∧ boolRow D P.hand
  big : g.base ≤ w.heap.size

/-- The feeds, as they came. -/
structure FeedMem (w : World) (fd : List Feed) (sb so B1 : Nat) (la : Nat → Option Addr) (cap : Nat → Nat) : Prop where
  sbl : 0 < fd.length → sb < B1
  hd : ∀ i, i < fd.length → w.cell? ⟨sb, so + i * 2, none⟩ = some (.slice (la i) (fd.getD i default).items.length (cap i)) ∧ w.cell? ⟨sb, so + i * 2 + 1, none⟩ = some (.int .i64 (fd.getD i default).fail)
  ne : ∀ i, i < fd.length → 0 < (fd.getD i default).items.length → ∃ lb lo, la i = some ⟨lb, lo, none⟩ ∧ lb < B1
  it : ∀ i, i < fd.length → ∀ j, j < (fd.getD i default).items.length → ∀ lb lo, la i = some ⟨lb, lo, none⟩ →
    w.cell? ⟨lb, lo + j * 2, none⟩ = some (.int .i64 ((fd.getD i default).items.getD j (0, 0)).1) ∧ w.cell? ⟨lb, lo + j * 2 + 1, none⟩ = some (.int .i64 ((fd.getD i default).items.getD j (0, 0)).2)
  len : ∀ i, i < fd.length → (fd.getD i default).items.length ≤ 9223372036854775807

theorem FeedMem.keep {w w' : World} {fd : List Feed} {sb so B1 : Nat} {la : Nat → Option Addr} {cap : Nat → Nat} (h : FeedMem w fd sb so B1 la cap) (K : Keep (fun b => b < B1) w w') : FeedMem w' fd sb so B1 la cap := by
  refine ⟨h.sbl, fun i hi => ?_, h.ne, fun i hi j hj lb lo e => ?_, h.len⟩
  · obtain ⟨a, b⟩ := h.hd i hi
    exact ⟨K.cell (h.sbl (by omega)) a, K.cell (h.sbl (by omega)) b⟩
  · obtain ⟨a, b⟩ := h.it i hi j hj lb lo e
    obtain ⟨lb', lo', e', hl⟩ := h.ne i hi (by omega)
    rw [e] at e'
    cases e'
    exact ⟨K.cell hl a, K.cell hl b⟩

theorem PlayAt.keep {w w' : World} {g : PGeo} {P : PS} {av : Value} {S : Nat → Prop} (h : PlayAt w g P av) (K : Keep S w w') (hp : S g.p) (hA : S g.A) (hH : S g.H) (ho : ∀ k, av.ownBlock = some k → S k) : PlayAt w' g P av := by
  obtain ⟨D, d1, d2⟩ := h.given
  obtain ⟨D', d3, d4⟩ := h.hand
  exact ⟨h.lenG, h.lenH, K.heap hp h.blk, ownsRow_keep h.own K ho, ⟨D, K.heap hA d1, d2⟩, ⟨D', K.heap hH d3, d4⟩, Nat.le_trans h.big K.size⟩
theorem PlayAt.all {w w' : World} {g : PGeo} {P : PS} {av : Value} (h : PlayAt w g P av) (K : Keep (fun _ => True) w w') : PlayAt w' g P av := h.keep K trivial trivial trivial (fun _ _ => trivial)

theorem PlayAt.cells {w : World} {g : PGeo} {P : PS} {av : Value} (h : PlayAt w g P av) :
    w.cell? ⟨g.p, 0, none⟩ = some (.slice g.sa g.k g.kc) ∧ w.cell? ⟨g.p, 1, none⟩ = some (.slice (some ⟨g.A, 0, none⟩) g.k g.k) ∧ w.cell? ⟨g.p, 2, none⟩ = some (.slice (some ⟨g.H, 0, none⟩) g.k g.k) ∧
    w.cell? ⟨g.p, 3, none⟩ = some (.bool P.begun) ∧ w.cell? ⟨g.p, 4, none⟩ = some (.int .i64 P.owed) ∧ w.cell? ⟨g.p, 5, none⟩ = some av ∧ w.cell? ⟨g.p, 6, none⟩ = some (.int .i64 (P.at_ : Nat)) ∧ w.cell? ⟨g.p, 7, none⟩ = some (.int .i64 P.err) := by
  refine ⟨?_, ?_, ?_, ?_, ?_, ?_, ?_, ?_⟩ <;> (rw [cell_blk h.blk]; rfl)
theorem PlayAt.free {w : World} {g : PGeo} {P : PS} {av : Value} (h : PlayAt w g P av) (j : Nat) : w.frozen? ⟨g.p, j, none⟩ = false := frozen_blk h.blk j
theorem PlayAt.freeA {w : World} {g : PGeo} {P : PS} {av : Value} (h : PlayAt w g P av) (j : Nat) : w.frozen? ⟨g.A, j, none⟩ = false := by obtain ⟨D, d1, _⟩ := h.given; exact frozen_blk d1 j
theorem PlayAt.freeH {w : World} {g : PGeo} {P : PS} {av : Value} (h : PlayAt w g P av) (j : Nat) : w.frozen? ⟨g.H, j, none⟩ = false := by obtain ⟨D, d1, _⟩ := h.hand; exact frozen_blk d1 j
theorem PlayAt.giv {w : World} {g : PGeo} {P : PS} {av : Value} (h : PlayAt w g P av) (i : Nat) (hi : i < g.k) : w.cell? ⟨g.A, i, none⟩ = some (.int .i64 (P.given.getD i 0 : Nat)) := by
  obtain ⟨D, d1, d2⟩ := h.given; exact (cell_blk d1 _).trans (d2.2 i (by rw [h.lenG]; exact hi))
theorem PlayAt.hnd {w : World} {g : PGeo} {P : PS} {av : Value} (h : PlayAt w g P av) (i : Nat) (hi : i < g.k) : w.cell? ⟨g.H, i, none⟩ = some (.bool (P.hand.getD i false)) := by
  obtain ⟨D, d1, d2⟩ := h.hand; exact (cell_blk d1 _).trans (d2.2 i (by rw [h.lenH]; exact hi))

theorem PlayAt.put {w : World} {g : PGeo} (o : g.Ok) {P : PS} {av : Value} (h : PlayAt w g P av) (j : Nat) (v : Value) (P' : PS) (hg : P'.given = P.given) (hh : P'.hand = P.hand) (ha : P'.asked = P.asked)
    (hc : (playCells g P av).setIfInBounds j v = playCells g P' av) : PlayAt (w.setCell ⟨g.p, j, none⟩ v) g P' av := by
  obtain ⟨D, d1, d2⟩ := h.given
  obtain ⟨D', d3, d4⟩ := h.hand
  have own : ∀ k, av.ownBlock = some k → k ≠ g.p := fun k hk => by have := (own_lo h.own k hk).1; have := o.p; omega
  refine ⟨by rw [hg]; exact h.lenG, by rw [hh]; exact h.lenH, by rw [set_blk h.blk, hc], ?_, ⟨D, set_far d1 (Ne.symm o.pA) _, by rw [hg]; exact d2⟩, ⟨D', set_far d3 (Ne.symm o.pH) _, by rw [hh]; exact d4⟩, by simpa [World.setCell] using h.big⟩
  rw [ha]
  exact ownsRow_setCell_below h.own (show g.p < g.base from o.p.2) _

theorem PlayAt.putGiven {w : World} {g : PGeo} (o : g.Ok) {P : PS} {av : Value} (h : PlayAt w g P av) (i v : Nat) : PlayAt (w.setCell ⟨g.A, i, none⟩ (.int .i64 (v : Nat))) g { P with given := P.given.set i v } av := by
  obtain ⟨D, d1, d2, d2'⟩ := h.given
  obtain ⟨D', d3, d4⟩ := h.hand
  refine ⟨by simpa using h.lenG, h.lenH, set_far h.blk o.pA _, ownsRow_setCell_below h.own (show g.A < g.base from o.A.2) _, ⟨_, set_blk d1 _ _, by simpa using d2, fun q hq => ?_⟩, ⟨D', set_far d3 (Ne.symm o.AH) _, d4⟩, by simpa [World.setCell] using h.big⟩
  simp only [List.length_set] at hq
  by_cases hqi : q = i
  · subst hqi
    simp only [Array.getElem?_setIfInBounds, if_true]
    rw [if_pos (by omega)]
    simp [List.getD_eq_getElem?_getD, hq]
  · rw [Array.getElem?_setIfInBounds_ne (Ne.symm hqi)]
    rw [d2' q hq]
    simp [List.getD_eq_getElem?_getD, List.getElem?_set_ne (Ne.symm hqi)]
theorem PlayAt.putHand {w : World} {g : PGeo} (o : g.Ok) {P : PS} {av : Value} (h : PlayAt w g P av) (i : Nat) (v : Bool) : PlayAt (w.setCell ⟨g.H, i, none⟩ (.bool v)) g { P with hand := P.hand.set i v } av := by
  obtain ⟨D, d1, d2⟩ := h.given
  obtain ⟨D', d3, d4, d4'⟩ := h.hand
  refine ⟨h.lenG, by simpa using h.lenH, set_far h.blk o.pH _, ownsRow_setCell_below h.own (show g.H < g.base from o.H.2) _, ⟨D, set_far d1 o.AH _, d2⟩, ⟨_, set_blk d3 _ _, by simpa using d4, fun q hq => ?_⟩, by simpa [World.setCell] using h.big⟩
  simp only [List.length_set] at hq
  by_cases hqi : q = i
  · subst hqi
    simp only [Array.getElem?_setIfInBounds, if_true]
    rw [if_pos (by omega)]
    simp [List.getD_eq_getElem?_getD, hq]
  · rw [Array.getElem?_setIfInBounds_ne (Ne.symm hqi)]
    rw [d4' q hq]
    simp [List.getD_eq_getElem?_getD, List.getElem?_set_ne (Ne.symm hqi)]

/-- The row of the asked may grow: a new value, a new world. -/
theorem PlayAt.noted {w w1 : World} {g : PGeo} (o : g.Ok) {P : PS} {av v1 : Value} {i : Nat} (h : PlayAt w g P av) (ob : Obj)
    (hown : w1.ownsRow g.base 3 1 v1 (P.asked.length + 1) (natVals P.asked ++ [.int .i64 (i : Nat)])) (hg : (w.alloc ob).grownBy w1 av.ownBlock) :
    PlayAt (w1.setCell ⟨g.p, 5, none⟩ v1) g { P with asked := P.asked ++ [i] } v1 := by
  have own : ∀ b, b < g.base → av.ownBlock ≠ some b := fun b hb e => by have := (own_lo h.own b e).1; omega
  have K : Keep (fun b => av.ownBlock ≠ some b) w w1 := ((Keep.refl (fun b => av.ownBlock ≠ some b) w).alloc ob).grown hg (fun b hb _ hs => hs hb)
  obtain ⟨D, d1, d2⟩ := h.given
  obtain ⟨D', d3, d4⟩ := h.hand
  refine ⟨h.lenG, h.lenH, by rw [set_blk (K.heap (own _ o.p.2) h.blk)]; rfl, ?_, ⟨D, set_far (K.heap (own _ o.A.2) d1) (Ne.symm o.pA) _, d2⟩, ⟨D', set_far (K.heap (own _ o.H.2) d3) (Ne.symm o.pH) _, d4⟩, by have := K.size; have := h.big; simp [World.setCell]; omega⟩
  have e : natVals (P.asked ++ [i]) = natVals P.asked ++ [.int .i64 (i : Nat)] := by simp [natVals]
  show World.ownsRow _ g.base 3 1 v1 (P.asked ++ [i]).length (natVals (P.asked ++ [i]))
  rw [e, List.length_append]
  exact ownsRow_setCell_below hown (show g.p < g.base from o.p.2) _
end Go.Proofs.Ytmhdalalicomkaa
