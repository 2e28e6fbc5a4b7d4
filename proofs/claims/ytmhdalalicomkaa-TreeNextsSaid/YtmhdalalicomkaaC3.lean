/- The gauge's sources as the tree's environment. -/
import Derived.Test.YtmhdalalicomkaaC2
namespace Go.Proofs.Ytmhdalalicomkaa
open Go.RowKit

structure Feed where
  items : List It
  fail : Int
instance : Inhabited Feed := ⟨⟨[], 0⟩⟩

structure GS where
  pos : List Nat
  asked : List Nat

def gaugeE (fd : List Feed) : Sys GS where
  src s i := (feedAns (fd.getD i default).items (fd.getD i default).fail (s.pos.getD i 0), ⟨s.pos.set i (feedNext (fd.getD i default).items (s.pos.getD i 0)), s.asked ++ [i]⟩)
  ord s x y := (byKeyF x y, s)

/-- Where a gauge and its sources lie. -/
structure Geo where
  fd : List Feed
  G : Nat
  base : Nat
  B0 : Nat
  t : Nat
  L : Nat
  M : Nat
  gb : Nat → Nat
  ib : Nat → Nat
  ab : Nat → Nat
  fb : Nat → Nat
  la : Nat → Option Addr
  cap : Nat → Nat

structure Geo.Ok (g : Geo) : Prop where
  G : g.G < g.B0
  base : g.B0 ≤ g.base
  t : g.B0 ≤ g.t ∧ g.t < g.base
  L : g.B0 ≤ g.L ∧ g.L < g.base
  M : g.B0 ≤ g.M ∧ g.M < g.base
  gb : ∀ i, i < g.fd.length → g.gb i < g.B0 ∧ g.gb i ≠ g.G
  ib : ∀ i, i < g.fd.length → g.ib i < g.B0 ∧ g.ib i ≠ g.G
  fb : ∀ i, i < g.fd.length → g.fb i < g.B0 ∧ g.fb i ≠ g.G
  ab : ∀ i, i < g.fd.length → g.ab i < g.B0 ∧ g.ab i ≠ g.G
  ga : ∀ i j, i < g.fd.length → j < g.fd.length → g.gb i ≠ g.ab j ∧ g.ib i ≠ g.ab j ∧ g.fb i ≠ g.ab j ∧ (i ≠ j → g.ab i ≠ g.ab j)
  it : ∀ i, i < g.fd.length → ∀ j, j < (g.fd.getD i default).items.length → ∃ lb lo, g.la i = some ⟨lb, lo, none⟩ ∧ lb < g.B0 ∧ lb ≠ g.G ∧ ∀ i', i' < g.fd.length → lb ≠ g.ab i'
  len : ∀ i, i < g.fd.length → (g.fd.getD i default).items.length ≤ 9223372036854775807

def gF (g : Geo) (_ : GS) (w : World) (b : Nat) : Prop := b = g.G ∨ (∃ i, i < g.fd.length ∧ b = g.ab i) ∨ (∃ v, w.cell? ⟨g.G, 0, none⟩ = some v ∧ v.ownBlock = some b)

structure GI (g : Geo) (n : Nat) (s : GS) (w : World) : Prop where
  few : s.asked.length + n < 1000000
  plen : s.pos.length = g.fd.length
  pos : ∀ i, i < g.fd.length → s.pos.getD i 0 ≤ (g.fd.getD i default).items.length
  big : g.base ≤ w.heap.size
  src : ∀ i, i < g.fd.length → w.cell? ⟨g.gb i, 0, none⟩ = some (.pointer (some ⟨g.G, 0, none⟩)) ∧ w.cell? ⟨g.ib i, 0, none⟩ = some (.int .i64 (i : Nat)) ∧
    w.cell? ⟨g.ab i, 0, none⟩ = some (.int .i64 (s.pos.getD i 0 : Nat)) ∧ w.frozen? ⟨g.ab i, 0, none⟩ = false ∧
    w.cell? ⟨g.fb i, 0, none⟩ = some (.slice (g.la i) (g.fd.getD i default).items.length (g.cap i)) ∧ w.cell? ⟨g.fb i, 1, none⟩ = some (.int .i64 (g.fd.getD i default).fail)
  items : ∀ i, i < g.fd.length → ∀ j, j < (g.fd.getD i default).items.length → ∀ lb lo, g.la i = some ⟨lb, lo, none⟩ →
    w.cell? ⟨lb, lo + j * 2, none⟩ = some (.int .i64 ((g.fd.getD i default).items.getD j (0, 0)).1) ∧ w.cell? ⟨lb, lo + j * 2 + 1, none⟩ = some (.int .i64 ((g.fd.getD i default).items.getD j (0, 0)).2)
  own : ∃ av, w.cell? ⟨g.G, 0, none⟩ = some av ∧ w.frozen? ⟨g.G, 0, none⟩ = false ∧ w.ownsRow g.base 3 1 av s.asked.length (natVals s.asked)

/-- What lies below B0 and the gauge's own row is kept: so is the gauge. -/
theorem GI.keep {g : Geo} (o : g.Ok) {n : Nat} {s : GS} {w w' : World} (h : GI g n s w) (K : Keep (fun b => gF g s w b ∨ b < g.B0) w w') : GI g n s w' := by
  obtain ⟨a1, a2, a3, a4, a5, a6, av, a7, a8, a9⟩ := h
  refine ⟨a1, a2, a3, Nat.le_trans a4 K.size, fun i hi => ?_, fun i hi j hj lb lo e => ?_, av, K.cell (.inr o.G) a7, K.free (.inr o.G) (World.block_lt_of_cell? w _ a7) a8, ownsRow_keep a9 K (fun k hk => .inl (.inr (.inr ⟨av, a7, hk⟩)))⟩
  · obtain ⟨b1, b2, b3, b4, b5, b6⟩ := a5 i hi
    exact ⟨K.cell (.inr (o.gb i hi).1) b1, K.cell (.inr (o.ib i hi).1) b2, K.cell (.inr (o.ab i hi).1) b3, K.free (.inr (o.ab i hi).1) (World.block_lt_of_cell? w _ b3) b4, K.cell (.inr (o.fb i hi).1) b5, K.cell (.inr (o.fb i hi).1) b6⟩
  · obtain ⟨lb', lo', e', h1, -⟩ := o.it i hi j hj
    rw [e] at e'
    cases e'
    obtain ⟨b1, b2⟩ := a6 i hi j hj lb lo e
    exact ⟨K.cell (.inr h1) b1, K.cell (.inr h1) b2⟩

theorem gF_same {g : Geo} (o : g.Ok) {n : Nat} {s s' : GS} {w w' : World} (h : GI g n s w) (K : Keep (fun b => gF g s w b ∨ b < g.B0) w w') (b : Nat) (hb : gF g s' w' b) : gF g s w b := by
  rcases hb with rfl | h1 | ⟨v, h1, h2⟩
  · exact .inl rfl
  · exact .inr (.inl h1)
  · obtain ⟨av, a7, a8, a9⟩ := h.own
    have := K.cell (.inr o.G) a7
    rw [this] at h1
    cases h1
    exact .inr (.inr ⟨_, a7, h2⟩)

theorem gauge_src (g : Geo) (o : g.Ok) (n : Nat) (s : GS) (w : World) (i : Nat) (hi : i < g.fd.length) (h : GI g (n + 1) s w) :
    Calls Try.prog 43 #[.pointer (some ⟨g.gb i, 0, none⟩), .pointer (some ⟨g.ib i, 0, none⟩), .pointer (some ⟨g.ab i, 0, none⟩), .pointer (some ⟨g.fb i, 0, none⟩)] w fun e w' =>
      e = .returned (.tuple #[It.val ((gaugeE g.fd).src s i).1.1, .bool ((gaugeE g.fd).src s i).1.2.1, .int .i64 ((gaugeE g.fd).src s i).1.2.2]) ∧ GI g n ((gaugeE g.fd).src s i).2 w' ∧ Keep (fun b => ¬ gF g s w b) w w' ∧ ∀ b, gF g ((gaugeE g.fd).src s i).2 w' b → gF g s w b ∨ w.heap.size ≤ b := by
  have h' := h
  obtain ⟨a1, a2, a3, a4, a5, a6, av, a7, a8, a9⟩ := h
  obtain ⟨b1, b2, b3, b4, b5, b6⟩ := a5 i hi
  have hbase := o.base
  have hG := o.G
  have hm : SrcMem w (g.gb i) (g.ib i) (g.ab i) (g.fb i) g.G i (s.pos.getD i 0) (g.fd.getD i default).items.length (g.cap i) (g.la i) (g.fd.getD i default).fail av s.asked g.base :=
    ⟨b1, b2, b3, b4, b5, b6, a7, a8, a9, by omega, by have := (o.gb i hi).1; omega, by have := (o.ib i hi).1; omega, by have := (o.ab i hi).1; omega, by have := (o.fb i hi).1; omega, a4, Ne.symm (o.ab i hi).2, (o.fb i hi).2, (o.ga i i hi hi).2.2.1⟩
  refine (src_any w _ _ _ _ g.G i _ _ _ (g.fd.getD i default).items _ av s.asked g.base hm (by omega) (o.len i hi) (by have := o.len i hi; have := a3 i hi; omega) ?_).mono ?_
  · intro hlt
    obtain ⟨lb, lo, e, h1, h2, h3⟩ := o.it i hi _ hlt
    obtain ⟨x1, x2⟩ := a6 i hi _ hlt lb lo e
    exact ⟨lb, lo, e, by omega, h2, h3 i hi, x1, x2⟩
  · rintro e w1 ⟨rfl, v1, c⟩
    have K : Keep (fun b => ¬ gF g s w b) w w1 := c.keep.mono (fun b _ hb => ⟨fun e => hb (.inl e), fun e => hb (.inr (.inl ⟨i, hi, e⟩)), fun e => hb (.inr (.inr ⟨av, a7, e.symm⟩))⟩)
    have own : ∀ b, b < g.B0 → some b ≠ av.ownBlock := fun b hb e => by have := (own_lo a9 b e.symm).1; omega
    refine ⟨rfl, ⟨?_, by simpa [gaugeE] using a2, ?_, Nat.le_trans a4 K.size, ?_, ?_, v1, c.cell, c.free, by simpa [gaugeE] using c.own⟩, K, ?_⟩
    · show (s.asked ++ [i]).length + n < 1000000
      simp; omega
    · intro j hj
      show (s.pos.set i _).getD j 0 ≤ _
      by_cases hji : j = i
      · subst hji
        rw [List.getD_eq_getElem?_getD, List.getElem?_set_self (by omega)]
        have := a3 j hj
        simp only [Option.getD_some, feedNext]
        split <;> omega
      · rw [List.getD_eq_getElem?_getD, List.getElem?_set_ne (Ne.symm hji), ← List.getD_eq_getElem?_getD]
        exact a3 j hj
    · intro j hj
      obtain ⟨d1, d2, d3, d4, d5, d6⟩ := a5 j hj
      have K1 : ∀ b, b < g.B0 → b ≠ g.G → b ≠ g.ab i → ∀ o' v, w.cell? ⟨b, o', none⟩ = some v → w1.cell? ⟨b, o', none⟩ = some v := fun b x1 x2 x3 o' v hv => c.keep.cell (a := ⟨b, o', none⟩) ⟨x2, x3, own b x1⟩ hv
      obtain ⟨y1, y2, y3, -⟩ := o.ga j i hj hi
      refine ⟨K1 _ (o.gb j hj).1 (o.gb j hj).2 y1 _ _ d1, K1 _ (o.ib j hj).1 (o.ib j hj).2 y2 _ _ d2, ?_, ?_, K1 _ (o.fb j hj).1 (o.fb j hj).2 y3 _ _ d5, K1 _ (o.fb j hj).1 (o.fb j hj).2 y3 _ _ d6⟩
      · show w1.cell? _ = some (.int .i64 ((s.pos.set i _).getD j 0 : Nat))
        by_cases hji : j = i
        · subst hji
          rw [List.getD_eq_getElem?_getD, List.getElem?_set_self (by omega)]
          exact c.at1
        · rw [List.getD_eq_getElem?_getD, List.getElem?_set_ne (Ne.symm hji), ← List.getD_eq_getElem?_getD]
          exact K1 _ (o.ab j hj).1 (o.ab j hj).2 ((o.ga j i hj hi).2.2.2 hji) _ _ d3
      · by_cases hji : j = i
        · subst hji; exact c.afree
        · exact c.keep.free (b := g.ab j) ⟨(o.ab j hj).2, (o.ga j i hj hi).2.2.2 hji, own _ (o.ab j hj).1⟩ (World.block_lt_of_cell? w _ d3) d4
    · intro j hj q hq lb lo e
      obtain ⟨lb', lo', e', h1, h2, h3⟩ := o.it j hj q hq
      rw [e] at e'
      cases e'
      obtain ⟨z1, z2⟩ := a6 j hj q hq lb lo e
      exact ⟨c.keep.cell (a := ⟨lb, _, none⟩) ⟨h2, h3 i hi, own lb h1⟩ z1, c.keep.cell (a := ⟨lb, _, none⟩) ⟨h2, h3 i hi, own lb h1⟩ z2⟩
    · intro b hb
      rcases hb with rfl | h1 | ⟨v, h1, h2⟩
      · exact .inl (.inl rfl)
      · exact .inl (.inr (.inl h1))
      · rw [c.cell] at h1
        cases h1
        rcases c.new b h2 with h3 | h3
        · exact .inl (.inr (.inr ⟨av, a7, h3⟩))
        · exact .inr h3

theorem gauge_env (g : Geo) (o : g.Ok) : EnvOk (gaugeE g.fd) g.B0 g.t g.L g.M g.fd.length (gF g) (GI g) (fun _ => 43)
    (fun i => #[.pointer (some ⟨g.gb i, 0, none⟩), .pointer (some ⟨g.ib i, 0, none⟩), .pointer (some ⟨g.ab i, 0, none⟩), .pointer (some ⟨g.fb i, 0, none⟩)]) 22 #[] where
  mono n s w h := ⟨by have := h.few; omega, h.plen, h.pos, h.big, h.src, h.items, h.own⟩
  apart n s w h b hb := by
    have := o.G; have := o.t; have := o.L; have := o.M; have := o.base; have := h.big
    rcases hb with rfl | ⟨i, hi, rfl⟩ | ⟨v, h1, h2⟩
    · exact ⟨by omega, by omega, by omega, by omega⟩
    · have := (o.ab i hi).1
      exact ⟨by omega, by omega, by omega, by omega⟩
    · obtain ⟨av, a7, a8, a9⟩ := h.own
      rw [a7] at h1
      cases h1
      have := own_lo a9 b h2
      exact ⟨by omega, by omega, by omega, by omega⟩
  lo := ⟨o.t.1, o.L.1, o.M.1⟩
  big n s w h := Nat.le_trans o.base h.big
  keep n s w w' h K := h.keep o K
  same n s w w' h K b hb := gF_same o h K b hb
  enter i hi args w := enters_of Try.func43 (by kernel_rfl) rfl args w
  src n s w i hi h := gauge_src g o n s w i hi h
  oenter args w := enters_of Try.func22 (by kernel_rfl) rfl args w
  ord n s w x y h := by
    refine (byKey_any x y w).mono ?_
    rintro e w1 ⟨rfl, K⟩
    have h1 : GI g n s w := ⟨by have := h.few; omega, h.plen, h.pos, h.big, h.src, h.items, h.own⟩
    exact ⟨rfl, h1.keep o (K.mono (fun _ _ _ => trivial)), K.mono (fun _ _ _ => trivial), fun b hb => .inl (gF_same o h1 (K.mono (fun _ _ _ => trivial)) b hb)⟩
end Go.Proofs.Ytmhdalalicomkaa
