/- The document's play: the walk of its front. -/
import Derived.Test.YtmhdalalicomkaaD1
namespace Go.Proofs.Ytmhdalalicomkaa
open Go.RowKit

def frontItem (fd : List Feed) (P : PS) (i : Nat) : It := (fd.getD i default).items.getD (P.given.getD i 0 - 1) (0, 0)

set_option maxRecDepth 100000 in
set_option maxHeartbeats 4000000 in
theorem front_any (w : World) (g : PGeo) (o : g.Ok) (P : PS) (av : Value) (fd : List Feed) (sb so : Nat) (la : Nat → Option Addr) (cap : Nat → Nat) (i : Nat) (h : PlayAt w g P av) (hf : FeedMem w fd sb so g.B1 la cap)
    (hk : fd.length = g.k) (hsa : 0 < g.k → g.sa = some ⟨sb, so, none⟩) (hi : i < g.k) (h1 : 1 ≤ P.given.getD i 0) (h2 : P.given.getD i 0 ≤ (fd.getD i default).items.length) :
    Calls Try.prog 39 #[.pointer (some ⟨g.p, 0, none⟩), .int .i64 (i : Nat)] w fun e w' => e = .returned (It.val (frontItem fd P i)) ∧ Keep (fun _ => True) w w' := by
  obtain ⟨c0, c1, -, -, -, -, -, -⟩ := h.cells
  have cg := h.giv i hi
  obtain ⟨f0, -⟩ := hf.hd i (by omega)
  obtain ⟨lb, lo, hla, hlb⟩ := hf.ne i (by omega) (by omega)
  obtain ⟨x0, x1⟩ := hf.it i (by omega) (P.given.getD i 0 - 1) (by omega) lb lo hla
  have hlen := hf.len i (by omega)
  rw [hsa (by omega)] at c0
  rw [hla] at f0
  have hF : frontItem fd P i = (fd.getD i default).items.getD (P.given.getD i 0 - 1) (0, 0) := rfl
  obtain ⟨q, hq⟩ : ∃ q, P.given.getD i 0 = q + 1 := ⟨P.given.getD i 0 - 1, by omega⟩
  rw [hq] at cg h2 x0 x1 hF
  rw [show q + 1 - 1 = q by omega] at x0 x1 hF
  generalize (fd.getD i default).items.getD q (0, 0) = x at x0 x1 hF
  generalize (fd.getD i default).items.length = n at f0 h2 hlen
  have HF := Lib.hid hF
  have l1 := World.block_lt_of_cell? w _ c0
  have l2 := World.block_lt_of_cell? w _ cg
  have l3 := World.block_lt_of_cell? w _ f0
  have l4 := World.block_lt_of_cell? w _ x0
  simp only at l1 l2 l3 l4
  clear hF hq h1 hla hsa hf h
  go_enter Try.func39, Try.ntmps39
  go_wp2_with fail
  go_region
  go_wp2_with fail
  refine bodyPost_ret (v := It.val x) (by simp [results, Try.results39, go_sem, *, It.val]) rfl ?_
  rw [HF.out]
  refine ⟨rfl, ?_⟩
  repeat (first | exact Keep.refl _ _ | refine Keep.drew ?_ | refine Keep.drewN ?_ _ | refine Keep.alloc ?_ _)

/-- The play's own blocks: what a call of its may write to. -/
def pF (g : PGeo) (_ : Unit) (w : World) (b : Nat) : Prop := ∃ v, w.cell? ⟨g.p, 5, none⟩ = some v ∧ v.ownBlock = some b
abbrev PFst (g : PGeo) (w w' : World) : Prop := Fst (pF g) g.p g.A g.H () () w w'

theorem PlayAt.fst {w w' : World} {g : PGeo} (o : g.Ok) {P : PS} {av : Value} (h : PlayAt w g P av) (K : Keep (fun b => b ≠ g.A ∧ b ≠ g.H) w w') (hc : w'.cell? ⟨g.p, 5, none⟩ = some av) : PFst g w w' := by
  refine ⟨K.mono (fun _ _ hb => hb.2.2), fun b hb => .inl ?_⟩
  obtain ⟨v, h1, h2⟩ := hb
  rw [hc] at h1
  cases h1
  exact ⟨_, h.cells.2.2.2.2.2.1, h2⟩

theorem PlayAt.fstN {w w1 W : World} {g : PGeo} {P : PS} {av : Value} {ob : Obj} {ng cp m m' : Nat} (h : PlayAt w g P av) (hg : (w.alloc ob).grownBy w1 av.ownBlock) (hat : av.ownBlock = some ng ∨ ng = w.heap.size + 1)
    (K : Keep (fun b => b ≠ g.p ∧ b ≠ g.A ∧ b ≠ g.H) w1 W) (hc : W.cell? ⟨g.p, 5, none⟩ = some (.slice (some ⟨ng, 0, none⟩) m' cp)) : PFst g w W := by
  have K1 : Keep (fun b => av.ownBlock ≠ some b) w w1 := ((Keep.refl (fun b => av.ownBlock ≠ some b) w).alloc ob).grown hg (fun b hb _ hs => hs hb)
  have hcp := h.cells.2.2.2.2.2.1
  refine ⟨⟨K.os.trans K1.os, K.tape.trans K1.tape, K.output.trans K1.output, Nat.le_trans K1.size K.size, fun b hb hs => ?_⟩, fun b hb => ?_⟩
  · exact (K.block b (Nat.lt_of_lt_of_le hb K1.size) hs.2).trans (K1.block b hb (fun e => hs.1 ⟨av, hcp, e⟩))
  · obtain ⟨v, h1, h2⟩ := hb
    rw [hc] at h1
    cases h1
    have : ng = b := by simpa [Value.ownBlock] using h2
    subst this
    rcases hat with h3 | h3
    · exact .inl ⟨av, hcp, h3⟩
    · exact .inr (by omega)

set_option maxRecDepth 100000 in
set_option maxHeartbeats 16000000 in
theorem playAsk_any (w : World) (g : PGeo) (o : g.Ok) (P : PS) (av : Value) (fd : List Feed) (sb so : Nat) (la : Nat → Option Addr) (cap : Nat → Nat) (i : Nat) (h : PlayAt w g P av) (hf : FeedMem w fd sb so g.B1 la cap)
    (hk : fd.length = g.k) (hsa : 0 < g.k → g.sa = some ⟨sb, so, none⟩) (hi : i < g.k) (hn : P.asked.length < 1000000) :
    Calls Try.prog 38 #[.pointer (some ⟨g.p, 0, none⟩), .int .i64 (i : Nat)] w fun e w' => e = .returned (.tuple #[]) ∧ ∃ av', PlayAt w' g (playAskF fd P i) av' ∧ PFst g w w' := by
  obtain ⟨i0, hm, hz0, hz1, hz2⟩ := info_parts info3
  obtain ⟨c0, c1, c2, -, -, c5, c6, c7⟩ := h.cells
  have f5 := h.free 5
  have f6 := h.free 6
  have f7 := h.free 7
  have cA := h.giv i hi
  have fA := h.freeA i
  have cH := h.hnd i hi
  have fH := h.freeH i
  obtain ⟨x0, x1⟩ := hf.hd i (by omega)
  have l1 := World.block_lt_of_cell? w _ c0
  have lA := World.block_lt_of_cell? w _ cA
  have lH := World.block_lt_of_cell? w _ cH
  have l4 := World.block_lt_of_cell? w _ x0
  simp only at l1 lA lH l4
  have hbig := h.big
  have hsb := hf.sbl (by omega)
  have lsb : sb < g.base := by have := o.p; omega
  have n1 := o.pA
  have n2 := o.pH
  have n3 := o.AH
  have n4 : sb ≠ g.p := by have := o.p; omega
  have n5 : sb ≠ g.A := by have := o.A; omega
  have n6 : sb ≠ g.H := by have := o.H; omega
  rw [hsa (by omega)] at c0
  have hlen := hf.len i (by omega)
  have HP := Lib.hid h
  have HFD := Lib.hid hf
  have HO := Lib.hid o
  have HSA := Lib.hid (hsa (by omega))
  clear h hf o hsa
  have hF : playAskF fd P i = (if P.given.getD i 0 < (fd.getD i default).items.length then { P with asked := P.asked ++ [i], given := P.given.set i (P.given.getD i 0 + 1), hand := (P.hand.set i false).set i true }
    else if (fd.getD i default).fail = 0 then { P with asked := P.asked ++ [i], hand := P.hand.set i false }
    else { P with asked := P.asked ++ [i], hand := P.hand.set i false, err := (fd.getD i default).fail, at_ := i }) := rfl
  generalize hgv : P.given.getD i 0 = gv at *
  generalize hln : (fd.getD i default).items.length = n at *
  generalize hfl : (fd.getD i default).fail = fl at *
  have HG := Lib.hid hgv
  clear hgv hln hfl
  by_cases hlt : gv < n
  · rw [if_pos hlt] at hF
    have HF := Lib.hid hF
    clear hF
    go_enter Try.func38, Try.ntmps38
    go_upto_region 2 with (first
      | (at_builtin; go_must (refine wpList_append_lies _ rfl (.tmp 8) (.tmp 10) 24 rfl g.base 3 i0 _ 1 8 Try.underlying24 hm hz0 hz1 hz2 rfl (by decide) av P.asked.length (natVals P.asked) rfl (HP.out.own.alloc _) ⟨w.heap.size, 0, none⟩ 1 1 [.int .i64 (i : Nat)] rfl rfl (World.news_of_block (cs := #[.int .i64 (i : Nat)]) (t := 3) (fr := (0, 0)) (heap_alloc_new _ _)) (by simp [Value.oneCell']) (by decide) (by unfold maxLen; omega) (by omega) (by simp; omega) (w.heap.size + 1) (by simp) ?_); intro ng cp w1 hown1 hgrow1 hat1 hlt1; have HN := Lib.hid (HP.out.noted HO.out _ hown1 hgrow1); have HX := Lib.hid (fun W K hc => PlayAt.fstN (W := W) (m := 0) (m' := P.asked.length + 1) (cp := cp) HP.out hgrow1 hat1 K hc); have K1 := Lib.hid (grow_old ((Keep.refl _ w).alloc _) HP.out.own hgrow1); have d0 := K1.out.cell HO.out.p.2 c0; have d1 := K1.out.cell HO.out.p.2 c1; have d2 := K1.out.cell HO.out.p.2 c2; have d5 := K1.out.cell HO.out.p.2 c5; have d6 := K1.out.cell HO.out.p.2 c6; have d7 := K1.out.cell HO.out.p.2 c7; have e5 := K1.out.free HO.out.p.2 l1 f5; have e6 := K1.out.free HO.out.p.2 l1 f6; have e7 := K1.out.free HO.out.p.2 l1 f7; have dA := K1.out.cell HO.out.A.2 cA; have eA := K1.out.free HO.out.A.2 lA fA; have dH := K1.out.cell HO.out.H.2 cH; have eH := K1.out.free HO.out.H.2 lH fH; have dx := K1.out.cell lsb x0; have dy := K1.out.cell lsb x1; have m1 : g.p < w1.heap.size := Nat.lt_of_lt_of_le l1 K1.out.size; have m2 : g.A < w1.heap.size := Nat.lt_of_lt_of_le lA K1.out.size; have m3 : g.H < w1.heap.size := Nat.lt_of_lt_of_le lH K1.out.size; have m4 : sb < w1.heap.size := Nat.lt_of_lt_of_le l4 K1.out.size; clear hown1 hgrow1 hat1 hlt1 c0 c1 c2 c5 c6 c7 f5 f6 f7 cA fA cH fH x0 x1))
    have HP1 := Lib.hid (HN.out.putHand HO.out i false)
    have HX1 := Lib.hid (fun W (K : Keep (fun b => b ≠ g.p ∧ b ≠ g.A ∧ b ≠ g.H) ((w1.setCell ⟨g.p, 5, none⟩ (.slice (some ⟨ng, 0, none⟩) (P.asked.length + 1) cp)).setCell ⟨g.H, i, none⟩ (.bool false)) W) hc => HX.out W ((((Keep.refl (fun b => b ≠ g.p ∧ b ≠ g.A ∧ b ≠ g.H) w1).setCell (a := ⟨g.p, 5, none⟩) (fun _ h => h.1 rfl) (.slice (some ⟨ng, 0, none⟩) (P.asked.length + 1) cp)).setCell (a := ⟨g.H, i, none⟩) (fun _ h => h.2.2 rfl) (.bool false)).trans K) hc)
    have z0 := cell_set_ne (cell_set_ne (p := ⟨g.p, 5, none⟩) (u := .slice (some ⟨ng, 0, none⟩) (P.asked.length + 1) cp) dx (.inl n4)) (p := ⟨g.H, i, none⟩) (u := .bool false) (.inl n6)
    have z1 := cell_set_ne (cell_set_ne (p := ⟨g.p, 5, none⟩) (u := .slice (some ⟨ng, 0, none⟩) (P.asked.length + 1) cp) dy (.inl n4)) (p := ⟨g.H, i, none⟩) (u := .bool false) (.inl n6)
    clear HN HX K1 d0 d1 d2 d5 d6 d7 e5 e6 e7 dA eA dH eH dx dy m1 m2 m3 m4
    generalize (w1.setCell ⟨g.p, 5, none⟩ (.slice (some ⟨ng, 0, none⟩) (P.asked.length + 1) cp)).setCell ⟨g.H, i, none⟩ (.bool false) = W at *
    obtain ⟨d0, d1, d2, -, -, d5, d6, d7⟩ := HP1.out.cells
    rw [HSA.out] at d0
    have e6 := HP1.out.free 6
    have e7 := HP1.out.free 7
    have dA := (HP1.out.giv i hi).trans (by rw [HG.out] : some (Value.int .i64 (P.given.getD i 0 : Nat)) = some (.int .i64 (gv : Nat)))
    have eA := HP1.out.freeA i
    have dH := HP1.out.hnd i hi
    have eH := HP1.out.freeH i
    have m1 := World.block_lt_of_cell? W _ d0
    have m2 := World.block_lt_of_cell? W _ dA
    have m3 := World.block_lt_of_cell? W _ dH
    have m4 := World.block_lt_of_cell? W _ z0
    simp only at m1 m2 m3 m4
    generalize (P.hand.set i false).getD i false = hb0 at dH
    go_quiet (fail)
    go_wp2_with fail
    go_region
    go_wp2_with fail
    refine bodyPost_ret (v := .tuple #[]) (by simp [results, Try.results38, go_sem]) rfl ?_
    rw [HF.out]
    refine ⟨rfl, ?_⟩
    have hT := ((HP1.out.all ((Keep.refl _ _).drewN (nq + 1))).putGiven HO.out i (gv + 1)).putHand HO.out i true
    exact ⟨_, hT, HX1.out _ ((((Keep.refl _ _).drewN (nq + 1)).setCell (a := ⟨g.A, i, none⟩) (fun _ h => h.2.1 rfl) _).setCell (a := ⟨g.H, i, none⟩) (fun _ h => h.2.2 rfl) _) hT.cells.2.2.2.2.2.1⟩
  · rw [if_neg hlt] at hF
    by_cases hf0 : fl = 0
    · rw [if_pos hf0] at hF
      have HF := Lib.hid hF
      clear hF
      go_enter Try.func38, Try.ntmps38
      go_upto_region 2 with (first
        | (at_builtin; go_must (refine wpList_append_lies _ rfl (.tmp 8) (.tmp 10) 24 rfl g.base 3 i0 _ 1 8 Try.underlying24 hm hz0 hz1 hz2 rfl (by decide) av P.asked.length (natVals P.asked) rfl (HP.out.own.alloc _) ⟨w.heap.size, 0, none⟩ 1 1 [.int .i64 (i : Nat)] rfl rfl (World.news_of_block (cs := #[.int .i64 (i : Nat)]) (t := 3) (fr := (0, 0)) (heap_alloc_new _ _)) (by simp [Value.oneCell']) (by decide) (by unfold maxLen; omega) (by omega) (by simp; omega) (w.heap.size + 1) (by simp) ?_); intro ng cp w1 hown1 hgrow1 hat1 hlt1; have HN := Lib.hid (HP.out.noted HO.out _ hown1 hgrow1); have HX := Lib.hid (fun W K hc => PlayAt.fstN (W := W) (m := 0) (m' := P.asked.length + 1) (cp := cp) HP.out hgrow1 hat1 K hc); have K1 := Lib.hid (grow_old ((Keep.refl _ w).alloc _) HP.out.own hgrow1); have d0 := K1.out.cell HO.out.p.2 c0; have d1 := K1.out.cell HO.out.p.2 c1; have d2 := K1.out.cell HO.out.p.2 c2; have d5 := K1.out.cell HO.out.p.2 c5; have d6 := K1.out.cell HO.out.p.2 c6; have d7 := K1.out.cell HO.out.p.2 c7; have e5 := K1.out.free HO.out.p.2 l1 f5; have e6 := K1.out.free HO.out.p.2 l1 f6; have e7 := K1.out.free HO.out.p.2 l1 f7; have dA := K1.out.cell HO.out.A.2 cA; have eA := K1.out.free HO.out.A.2 lA fA; have dH := K1.out.cell HO.out.H.2 cH; have eH := K1.out.free HO.out.H.2 lH fH; have dx := K1.out.cell lsb x0; have dy := K1.out.cell lsb x1; have m1 : g.p < w1.heap.size := Nat.lt_of_lt_of_le l1 K1.out.size; have m2 : g.A < w1.heap.size := Nat.lt_of_lt_of_le lA K1.out.size; have m3 : g.H < w1.heap.size := Nat.lt_of_lt_of_le lH K1.out.size; have m4 : sb < w1.heap.size := Nat.lt_of_lt_of_le l4 K1.out.size; clear hown1 hgrow1 hat1 hlt1 c0 c1 c2 c5 c6 c7 f5 f6 f7 cA fA cH fH x0 x1))
      have HP1 := Lib.hid (HN.out.putHand HO.out i false)
      have HX1 := Lib.hid (fun W (K : Keep (fun b => b ≠ g.p ∧ b ≠ g.A ∧ b ≠ g.H) ((w1.setCell ⟨g.p, 5, none⟩ (.slice (some ⟨ng, 0, none⟩) (P.asked.length + 1) cp)).setCell ⟨g.H, i, none⟩ (.bool false)) W) hc => HX.out W ((((Keep.refl (fun b => b ≠ g.p ∧ b ≠ g.A ∧ b ≠ g.H) w1).setCell (a := ⟨g.p, 5, none⟩) (fun _ h => h.1 rfl) (.slice (some ⟨ng, 0, none⟩) (P.asked.length + 1) cp)).setCell (a := ⟨g.H, i, none⟩) (fun _ h => h.2.2 rfl) (.bool false)).trans K) hc)
      have z0 := cell_set_ne (cell_set_ne (p := ⟨g.p, 5, none⟩) (u := .slice (some ⟨ng, 0, none⟩) (P.asked.length + 1) cp) dx (.inl n4)) (p := ⟨g.H, i, none⟩) (u := .bool false) (.inl n6)
      have z1 := cell_set_ne (cell_set_ne (p := ⟨g.p, 5, none⟩) (u := .slice (some ⟨ng, 0, none⟩) (P.asked.length + 1) cp) dy (.inl n4)) (p := ⟨g.H, i, none⟩) (u := .bool false) (.inl n6)
      clear HN HX K1 d0 d1 d2 d5 d6 d7 e5 e6 e7 dA eA dH eH dx dy m1 m2 m3 m4
      generalize (w1.setCell ⟨g.p, 5, none⟩ (.slice (some ⟨ng, 0, none⟩) (P.asked.length + 1) cp)).setCell ⟨g.H, i, none⟩ (.bool false) = W at *
      obtain ⟨d0, d1, d2, -, -, d5, d6, d7⟩ := HP1.out.cells
      rw [HSA.out] at d0
      have e6 := HP1.out.free 6
      have e7 := HP1.out.free 7
      have dA := (HP1.out.giv i hi).trans (by rw [HG.out] : some (Value.int .i64 (P.given.getD i 0 : Nat)) = some (.int .i64 (gv : Nat)))
      have eA := HP1.out.freeA i
      have dH := HP1.out.hnd i hi
      have eH := HP1.out.freeH i
      have m1 := World.block_lt_of_cell? W _ d0
      have m2 := World.block_lt_of_cell? W _ dA
      have m3 := World.block_lt_of_cell? W _ dH
      have m4 := World.block_lt_of_cell? W _ z0
      simp only at m1 m2 m3 m4
      generalize (P.hand.set i false).getD i false = hb0 at dH
      go_quiet (fail)
      go_wp2_with fail
      go_end0
      rw [HF.out]
      refine ⟨rfl, ?_⟩
      have hT := HP1.out.all ((Keep.refl _ _).drewN nq)
      exact ⟨⟨_, hT⟩, HX1.out _ ((Keep.refl _ _).drewN nq) hT.cells.2.2.2.2.2.1⟩
    · rw [if_neg hf0] at hF
      have HF := Lib.hid hF
      clear hF
      go_enter Try.func38, Try.ntmps38
      go_upto_region 2 with (first
        | (at_builtin; go_must (refine wpList_append_lies _ rfl (.tmp 8) (.tmp 10) 24 rfl g.base 3 i0 _ 1 8 Try.underlying24 hm hz0 hz1 hz2 rfl (by decide) av P.asked.length (natVals P.asked) rfl (HP.out.own.alloc _) ⟨w.heap.size, 0, none⟩ 1 1 [.int .i64 (i : Nat)] rfl rfl (World.news_of_block (cs := #[.int .i64 (i : Nat)]) (t := 3) (fr := (0, 0)) (heap_alloc_new _ _)) (by simp [Value.oneCell']) (by decide) (by unfold maxLen; omega) (by omega) (by simp; omega) (w.heap.size + 1) (by simp) ?_); intro ng cp w1 hown1 hgrow1 hat1 hlt1; have HN := Lib.hid (HP.out.noted HO.out _ hown1 hgrow1); have HX := Lib.hid (fun W K hc => PlayAt.fstN (W := W) (m := 0) (m' := P.asked.length + 1) (cp := cp) HP.out hgrow1 hat1 K hc); have K1 := Lib.hid (grow_old ((Keep.refl _ w).alloc _) HP.out.own hgrow1); have d0 := K1.out.cell HO.out.p.2 c0; have d1 := K1.out.cell HO.out.p.2 c1; have d2 := K1.out.cell HO.out.p.2 c2; have d5 := K1.out.cell HO.out.p.2 c5; have d6 := K1.out.cell HO.out.p.2 c6; have d7 := K1.out.cell HO.out.p.2 c7; have e5 := K1.out.free HO.out.p.2 l1 f5; have e6 := K1.out.free HO.out.p.2 l1 f6; have e7 := K1.out.free HO.out.p.2 l1 f7; have dA := K1.out.cell HO.out.A.2 cA; have eA := K1.out.free HO.out.A.2 lA fA; have dH := K1.out.cell HO.out.H.2 cH; have eH := K1.out.free HO.out.H.2 lH fH; have dx := K1.out.cell lsb x0; have dy := K1.out.cell lsb x1; have m1 : g.p < w1.heap.size := Nat.lt_of_lt_of_le l1 K1.out.size; have m2 : g.A < w1.heap.size := Nat.lt_of_lt_of_le lA K1.out.size; have m3 : g.H < w1.heap.size := Nat.lt_of_lt_of_le lH K1.out.size; have m4 : sb < w1.heap.size := Nat.lt_of_lt_of_le l4 K1.out.size; clear hown1 hgrow1 hat1 hlt1 c0 c1 c2 c5 c6 c7 f5 f6 f7 cA fA cH fH x0 x1))
      have HP1 := Lib.hid (HN.out.putHand HO.out i false)
      have HX1 := Lib.hid (fun W (K : Keep (fun b => b ≠ g.p ∧ b ≠ g.A ∧ b ≠ g.H) ((w1.setCell ⟨g.p, 5, none⟩ (.slice (some ⟨ng, 0, none⟩) (P.asked.length + 1) cp)).setCell ⟨g.H, i, none⟩ (.bool false)) W) hc => HX.out W ((((Keep.refl (fun b => b ≠ g.p ∧ b ≠ g.A ∧ b ≠ g.H) w1).setCell (a := ⟨g.p, 5, none⟩) (fun _ h => h.1 rfl) (.slice (some ⟨ng, 0, none⟩) (P.asked.length + 1) cp)).setCell (a := ⟨g.H, i, none⟩) (fun _ h => h.2.2 rfl) (.bool false)).trans K) hc)
      have z0 := cell_set_ne (cell_set_ne (p := ⟨g.p, 5, none⟩) (u := .slice (some ⟨ng, 0, none⟩) (P.asked.length + 1) cp) dx (.inl n4)) (p := ⟨g.H, i, none⟩) (u := .bool false) (.inl n6)
      have z1 := cell_set_ne (cell_set_ne (p := ⟨g.p, 5, none⟩) (u := .slice (some ⟨ng, 0, none⟩) (P.asked.length + 1) cp) dy (.inl n4)) (p := ⟨g.H, i, none⟩) (u := .bool false) (.inl n6)
      clear HN HX K1 d0 d1 d2 d5 d6 d7 e5 e6 e7 dA eA dH eH dx dy m1 m2 m3 m4
      generalize (w1.setCell ⟨g.p, 5, none⟩ (.slice (some ⟨ng, 0, none⟩) (P.asked.length + 1) cp)).setCell ⟨g.H, i, none⟩ (.bool false) = W at *
      obtain ⟨d0, d1, d2, -, -, d5, d6, d7⟩ := HP1.out.cells
      rw [HSA.out] at d0
      have e6 := HP1.out.free 6
      have e7 := HP1.out.free 7
      have dA := (HP1.out.giv i hi).trans (by rw [HG.out] : some (Value.int .i64 (P.given.getD i 0 : Nat)) = some (.int .i64 (gv : Nat)))
      have eA := HP1.out.freeA i
      have dH := HP1.out.hnd i hi
      have eH := HP1.out.freeH i
      have m1 := World.block_lt_of_cell? W _ d0
      have m2 := World.block_lt_of_cell? W _ dA
      have m3 := World.block_lt_of_cell? W _ dH
      have m4 := World.block_lt_of_cell? W _ z0
      simp only at m1 m2 m3 m4
      generalize (P.hand.set i false).getD i false = hb0 at dH
      go_quiet (fail)
      go_wp2_with fail
      first | go_end0 | go_ret
      rw [HF.out]
      refine ⟨rfl, ?_⟩
      have hT := ((HP1.out.all ((Keep.refl _ _).drewN nq)).put HO.out 7 (.int .i64 fl) { P with asked := P.asked ++ [i], hand := P.hand.set i false, err := fl } rfl rfl rfl rfl).put HO.out 6 (.int .i64 (i : Nat)) { P with asked := P.asked ++ [i], hand := P.hand.set i false, err := fl, at_ := i } rfl rfl rfl rfl
      exact ⟨⟨_, hT⟩, HX1.out _ ((((Keep.refl _ _).drewN nq).setCell (a := ⟨g.p, 7, none⟩) (fun _ h => h.1 rfl) _).setCell (a := ⟨g.p, 6, none⟩) (fun _ h => h.1 rfl) _) hT.cells.2.2.2.2.2.1⟩
end Go.Proofs.Ytmhdalalicomkaa
