/- The gauge's sources: one asking. -/
import Derived.Test.YtmhdalalicomkaaB8
import Derived.Deep.RegionLaw
import Derived.OwnWalk
namespace Go.Proofs.Ytmhdalalicomkaa
open Go.RowKit

theorem info3 : (Try.prog.info? 3).map (fun i => (i.zero, i.size, i.bytes)) = some (some (.int .i64 0), 1, 8) := by kernel_rfl

def natVals (l : List Nat) : List Value := l.map fun n => .int .i64 (n : Nat)

/-- The first half: the asking is noted. -/
structure SrcMem (w : World) (gb ib ab fb G : Nat) (i at_ n cap : Nat) (la : Option Addr) (fail : Int) (av : Value) (asked : List Nat) (base : Nat) : Prop where
  c0 : w.cell? ⟨gb, 0, none⟩ = some (.pointer (some ⟨G, 0, none⟩))
  c1 : w.cell? ⟨ib, 0, none⟩ = some (.int .i64 (i : Nat))
  c2 : w.cell? ⟨ab, 0, none⟩ = some (.int .i64 (at_ : Nat))
  f2 : w.frozen? ⟨ab, 0, none⟩ = false
  c3 : w.cell? ⟨fb, 0, none⟩ = some (.slice la n cap)
  c4 : w.cell? ⟨fb, 1, none⟩ = some (.int .i64 fail)
  g0 : w.cell? ⟨G, 0, none⟩ = some av
  gf : w.frozen? ⟨G, 0, none⟩ = false
  own : w.ownsRow base 3 1 av asked.length (natVals asked)
  bG : G < base
  bg : gb < base
  bi : ib < base
  ba : ab < base
  bf : fb < base
  sz : base ≤ w.heap.size
  nGa : G ≠ ab
  nGf : fb ≠ G
  naf : fb ≠ ab

theorem add_block (a : Addr) (i : Nat) : (a.add i).block = a.block := by unfold Addr.add; split <;> rfl
theorem own_lo {w : World} {base : Nat} {e : TypeId} {size n : Nat} {v : Value} {xs : List Value} (h : w.ownsRow base e size v n xs) (k : Nat) (hk : v.ownBlock = some k) : base ≤ k ∧ k < w.heap.size := by
  rcases h.2 with ⟨rfl, _⟩ | ⟨g, cap, cur, rfl, hb, hh, _⟩
  · simp [Value.ownBlock] at hk
  · have : g = k := by simpa [Value.ownBlock] using hk
    subst this
    exact ⟨hb, lt_of_heap hh⟩
theorem Keep.free {S : Nat → Prop} {w w1 : World} (h : Keep S w w1) {b j : Nat} (hs : S b) (hb : b < w.heap.size) (hf : w.frozen? ⟨b, j, none⟩ = false) : w1.frozen? ⟨b, j, none⟩ = false :=
  (World.frozen?_of_block (w := w) (a := ⟨b, j, none⟩) (h.block b hb hs)).trans hf
theorem grow_old {w W w1 : World} {base : Nat} {e : TypeId} {size n : Nat} {v : Value} {xs : List Value} (hK : Keep (fun _ => True) w W) (hown : w.ownsRow base e size v n xs) (hg : W.grownBy w1 v.ownBlock) : Keep (fun b => b < base) w w1 :=
  (hK.mono (fun _ _ _ => trivial)).grown hg (fun k hk _ h => by have := (own_lo hown k hk).1; omega)

/-- What the noting of an asking leaves. -/
structure Noted (w wc : World) (G i : Nat) (av : Value) (asked : List Nat) (base : Nat) (v1 : Value) : Prop where
  cell : wc.cell? ⟨G, 0, none⟩ = some v1
  own : wc.ownsRow base 3 1 v1 (asked.length + 1) (natVals (asked ++ [i]))
  keep : Keep (fun b => b ≠ G ∧ some b ≠ av.ownBlock) w wc
  new : ∀ k, v1.ownBlock = some k → av.ownBlock = some k ∨ w.heap.size + 1 ≤ k
  box : wc.heap[w.heap.size]? = some (.cells #[.int .i64 0, .int .i64 0] 35)
  free : wc.frozen? ⟨G, 0, none⟩ = false

theorem noted (w w1 : World) (G i : Nat) (av : Value) (asked : List Nat) (base : Nat) (g cp : Nat) (hG : w.cell? ⟨G, 0, none⟩ = some av) (fG : w.frozen? ⟨G, 0, none⟩ = false) (bG : G < base) (hown : w.ownsRow base 3 1 av asked.length (natVals asked)) (lG : G < w.heap.size)
    (hown1 : w1.ownsRow base 3 1 (.slice (some ⟨g, 0, none⟩) (asked.length + 1) cp) (asked.length + 1) (natVals asked ++ [.int .i64 (i : Nat)]))
    (hgrow : ((w.alloc (.cells #[.int .i64 0, .int .i64 0] 35)).alloc (.cells #[.int .i64 (i : Nat)] 3)).drew.grownBy w1 av.ownBlock) (hat : av.ownBlock = some g ∨ g = w.heap.size + 1 + 1) (hlt : g < w1.heap.size) :
    Noted w (w1.setCell ⟨G, 0, none⟩ (.slice (some ⟨g, 0, none⟩) (asked.length + 1) cp)) G i av asked base (.slice (some ⟨g, 0, none⟩) (asked.length + 1) cp) := by
  have hne : ∀ k, av.ownBlock = some k → k ≠ G := fun k hk e => by have := (own_lo hown k hk).1; omega
  have hK : Keep (fun b => b ≠ G ∧ some b ≠ av.ownBlock) w w1 := ((((Keep.refl (fun b => b ≠ G ∧ some b ≠ av.ownBlock) w).alloc (.cells #[.int .i64 0, .int .i64 0] 35)).alloc (.cells #[.int .i64 (i : Nat)] 3)).drew).grown hgrow (fun k hk _ h => h.2 hk.symm)
  have hcG : w1.cell? ⟨G, 0, none⟩ = some av := (grow_old ((((Keep.refl _ w).alloc _).alloc _).drew) hown hgrow).cell bG hG
  have hb : w1.heap[w.heap.size]? = some (.cells #[.int .i64 0, .int .i64 0] 35) := by
    have h1 : ((w.alloc (.cells #[.int .i64 0, .int .i64 0] 35)).alloc (.cells #[.int .i64 (i : Nat)] 3)).drew.heap[w.heap.size]? = some (.cells #[.int .i64 0, .int .i64 0] 35) :=
      drew_blk (alloc_far (alloc_new w _) _)
    exact (hgrow.block _ (lt_of_heap h1) (fun e => by have := (own_lo hown _ e.symm).2; omega)).trans h1
  refine ⟨World.cell?_setCell_same' _ _ _ (by rw [hcG]; rfl), ?_, hK.setCell (a := ⟨G, 0, none⟩) (fun _ h => h.1 rfl) _, ?_, set_far hb (show w.heap.size ≠ G by omega) _, (World.frozen?_setCell _ _ _ _).trans (((grow_old ((((Keep.refl _ w).alloc _).alloc _).drew) hown hgrow).free bG lG fG))⟩
  · have : natVals (asked ++ [i]) = natVals asked ++ [.int .i64 (i : Nat)] := by simp [natVals]
    rw [this]
    exact ownsRow_setCell_below hown1 (a := ⟨G, 0, none⟩) bG _
  · intro k hk
    have : g = k := by simpa [Value.ownBlock] using hk
    subst this
    rcases hat with h | h
    · exact .inl h
    · exact .inr (by omega)

/-- A source's answer at a place of its feed. -/
def feedAns (xs : List It) (fail : Int) (at_ : Nat) : It × Bool × Int :=
  if at_ < xs.length then (xs.getD at_ (0, 0), true, 0) else if fail = 0 then ((0, 0), false, 0) else ((99, 99), true, fail)
def feedNext (xs : List It) (at_ : Nat) : Nat := if at_ < xs.length then at_ + 1 else at_

structure Asked (w wc : World) (G ab i at1 : Nat) (av : Value) (asked : List Nat) (base : Nat) (v1 : Value) : Prop where
  cell : wc.cell? ⟨G, 0, none⟩ = some v1
  free : wc.frozen? ⟨G, 0, none⟩ = false
  own : wc.ownsRow base 3 1 v1 (asked.length + 1) (natVals (asked ++ [i]))
  at1 : wc.cell? ⟨ab, 0, none⟩ = some (.int .i64 (at1 : Nat))
  afree : wc.frozen? ⟨ab, 0, none⟩ = false
  keep : Keep (fun b => b ≠ G ∧ b ≠ ab ∧ some b ≠ av.ownBlock) w wc
  new : ∀ k, v1.ownBlock = some k → av.ownBlock = some k ∨ w.heap.size ≤ k

theorem ownsRow_keep {w W : World} {base : Nat} {e : TypeId} {size n : Nat} {v : Value} {xs : List Value} {S : Nat → Prop} (h : w.ownsRow base e size v n xs) (hK : Keep S w W) (hs : ∀ k, v.ownBlock = some k → S k) : W.ownsRow base e size v n xs := by
  refine ⟨h.1, ?_⟩
  rcases h.2 with h1 | ⟨g, cap, cur, rfl, hb, hh, hr⟩
  · exact .inl h1
  · exact .inr ⟨g, cap, cur, rfl, hb, hK.heap (hs g rfl) hh, hr⟩

theorem closeA {w wc W : World} {G ab i at1 : Nat} {av v1 : Value} {asked : List Nat} {base : Nat} (h : Noted w wc G i av asked base v1) (hown : w.ownsRow base 3 1 av asked.length (natVals asked)) (sz : base ≤ w.heap.size) (bG : G < base) (ba : ab < base)
    (nGa : G ≠ ab) (hK : Keep (fun b => b ≠ ab ∧ b ≠ w.heap.size) wc W) (hat : W.cell? ⟨ab, 0, none⟩ = some (.int .i64 (at1 : Nat))) (haf : W.frozen? ⟨ab, 0, none⟩ = false) : Asked w W G ab i at1 av asked base v1 := by
  have hl := lt_of_heap h.box
  have hG : G < wc.heap.size := World.block_lt_of_cell? wc _ h.cell
  have own : ∀ k, v1.ownBlock = some k → k ≠ ab ∧ k ≠ w.heap.size := fun k hk => by
    have := (own_lo h.own k hk).1
    refine ⟨by omega, ?_⟩
    rcases h.new k hk with h1 | h1
    · have := (own_lo hown k h1).2; omega
    · omega
  refine ⟨hK.cell (a := ⟨G, 0, none⟩) ⟨nGa, show G ≠ w.heap.size by omega⟩ h.cell, hK.free (b := G) ⟨nGa, by omega⟩ hG h.free, ownsRow_keep h.own hK own, hat, haf, ?_, fun k hk => ?_⟩
  · refine ⟨hK.os.trans h.keep.os, hK.tape.trans h.keep.tape, hK.output.trans h.keep.output, Nat.le_trans h.keep.size hK.size, fun b hb hs => ?_⟩
    exact (hK.block b (Nat.lt_of_lt_of_le hb h.keep.size) ⟨hs.2.1, by omega⟩).trans (h.keep.block b hb ⟨hs.1, hs.2.2⟩)
  · rcases h.new k hk with h1 | h1
    · exact .inl h1
    · exact .inr (by omega)

set_option maxRecDepth 100000 in
set_option maxHeartbeats 16000000 in
theorem src_any (w : World) (gb ib ab fb G : Nat) (i at_ cap : Nat) (la : Option Addr) (xs : List It) (fail : Int) (av : Value) (asked : List Nat) (base : Nat)
    (h : SrcMem w gb ib ab fb G i at_ xs.length cap la fail av asked base) (hn : asked.length < 1000000) (hcap : xs.length ≤ 9223372036854775807) (hat0 : at_ < 9223372036854775808)
    (hit : at_ < xs.length → ∃ lb lo, la = some ⟨lb, lo, none⟩ ∧ lb < base ∧ lb ≠ G ∧ lb ≠ ab ∧ w.cell? ⟨lb, lo + at_ * 2, none⟩ = some (.int .i64 (xs.getD at_ (0, 0)).1) ∧ w.cell? ⟨lb, lo + at_ * 2 + 1, none⟩ = some (.int .i64 (xs.getD at_ (0, 0)).2)) :
    Calls Try.prog 43 #[.pointer (some ⟨gb, 0, none⟩), .pointer (some ⟨ib, 0, none⟩), .pointer (some ⟨ab, 0, none⟩), .pointer (some ⟨fb, 0, none⟩)] w fun e w' =>
      e = .returned (.tuple #[It.val (feedAns xs fail at_).1, .bool (feedAns xs fail at_).2.1, .int .i64 (feedAns xs fail at_).2.2]) ∧ ∃ v1, Asked w w' G ab i (feedNext xs at_) av asked base v1 := by
  obtain ⟨i0, hi, hz0, hz1, hz2⟩ := info_parts info3
  obtain ⟨c0, c1, c2, f2, c3, c4, g0, gf, hown, bG, bg, bi, ba, bf, sz, nGa, nGf, naf⟩ := h
  have lg := World.block_lt_of_cell? w _ c0
  have li := World.block_lt_of_cell? w _ c1
  have lab := World.block_lt_of_cell? w _ c2
  have lf := World.block_lt_of_cell? w _ c3
  have lG := World.block_lt_of_cell? w _ g0
  simp only at lg li lab lf lG
  go_enter Try.func43, Try.ntmps43
  go_upto_region 1 with (fail)
  go_cut [] (fun wc => ∃ v1, Hid (Noted w wc G i av asked base v1))
  case first =>
    go_region_law (refine step_append_lies _ (by rfl) (.tmp 11) (.tmp 13) 24 (by rfl) base 3 i0 (.int .i64 0) 1 8 Try.underlying24 hi hz0 hz1 hz2 rfl (by decide) av asked.length (natVals asked) (by rfl) (by exact ((hown.alloc _).alloc _).drew) ⟨w.heap.size + 1, 0, none⟩ 1 1 [.int .i64 (i : Nat)] (by rfl) (by rfl) (World.news_of_block (cs := #[.int .i64 (i : Nat)]) (t := 3) (fr := (0, 0)) (by have := heap_alloc_new (w.alloc (.cells #[.int .i64 0, .int .i64 0] 35)) (.cells #[.int .i64 (i : Nat)] 3); rw [World.size_alloc] at this; exact this)) (by simp [Value.oneCell']) (by decide) (by unfold maxLen; omega) (by omega) (by simp; omega) (w.heap.size + 1 + 1) (by simp) ?_; intro g cp w1 hown1 hgrow hat1 hlt1; have K1 := Lib.hid (grow_old (((((Keep.refl _ w).alloc _).alloc _).drew)) hown hgrow); have k0 := K1.out.cell bG g0; have kg := K1.out.cell bg c0; have kf0 := K1.out.free bG lG gf; have HNN := Lib.hid (noted w w1 G i av asked base g cp g0 gf bG hown lG hown1 hgrow hat1 hlt1); clear hown1 hgrow hat1 hlt1)
    all_goals (go_wp2_with fail; go_meet; (case rel => exact ⟨_, HNN.out⟩))
  case rest =>
    obtain ⟨v1, HN⟩ := hcut
    have hba : some ab ≠ av.ownBlock := fun e => by have := (own_lo hown ab e.symm).1; omega
    have hbf : some fb ≠ av.ownBlock := fun e => by have := (own_lo hown fb e.symm).1; omega
    have k2 := HN.out.keep.cell ⟨Ne.symm nGa, hba⟩ c2
    have kf2 := HN.out.keep.free (b := ab) (j := 0) ⟨Ne.symm nGa, hba⟩ lab f2
    have k3 := HN.out.keep.cell ⟨nGf, hbf⟩ c3
    have k4 := HN.out.keep.cell ⟨nGf, hbf⟩ c4
    have bx := HN.out.box
    have bl := lt_of_heap bx
    have labc : ab < wc.heap.size := World.block_lt_of_cell? wc _ k2
    have lfc : fb < wc.heap.size := World.block_lt_of_cell? wc _ k3
    have lGc : G < wc.heap.size := World.block_lt_of_cell? wc _ HN.out.cell
    have b0 : wc.cell? ⟨w.heap.size, 0, none⟩ = some (.int .i64 0) := by rw [cell_blk bx]; rfl
    have b1 : wc.cell? ⟨w.heap.size, 1, none⟩ = some (.int .i64 0) := by rw [cell_blk bx]; rfl
    have bf0 := frozen_blk bx 0
    have bf1 := frozen_blk bx 1
    have hfree := HN.out.free
    have HGF := Lib.hid hfree
    have hwab : ab ≠ w.heap.size := by omega
    have CL := fun W at1 => closeA (W := W) (at1 := at1) HN.out hown sz bG ba nGa
    have CLH := Lib.hid CL
    clear CL
    have hwab' : w.heap.size ≠ ab := by omega
    have hwf : fb ≠ w.heap.size := by omega
    have HOWN := Lib.hid hown
    have HIT := Lib.hid hit
    clear hown hit hba hbf c0 c1 c2 f2 c3 c4 g0 gf bx hfree hz0 hz1 hz2 hi
    by_cases hlt : at_ < xs.length
    · obtain ⟨lb, lo, rfl, hlb, hlG, hla, x1, x2⟩ := HIT.out hlt
      have x1' := HN.out.keep.cell ⟨hlG, fun e => by have := (own_lo HOWN.out lb e.symm).1; omega⟩ x1
      have x2' := HN.out.keep.cell ⟨hlG, fun e => by have := (own_lo HOWN.out lb e.symm).1; omega⟩ x2
      have llb : lb < wc.heap.size := World.block_lt_of_cell? wc _ x1'
      have hlw : lb ≠ w.heap.size := by have := World.block_lt_of_cell? w _ x1; simp only at this; omega
      have hA : feedAns xs fail at_ = (xs.getD at_ (0, 0), true, 0) := by unfold feedAns; rw [if_pos hlt]
      have hN : feedNext xs at_ = at_ + 1 := by unfold feedNext; rw [if_pos hlt]
      have HA := Lib.hid hA
      have HX := Lib.hid hN
      clear hA hN x1 x2
      generalize xs.getD at_ (0, 0) = x at *
      go_wp2_with fail
      refine bodyPost_ret (v := .tuple #[It.val x, .bool true, .int .i64 0]) (by simp [results, Try.results43, go_sem, *, It.val]) rfl ?_
      rw [HA.out, HX.out]
      refine ⟨rfl, v1, CLH.out _ _ ?_ ?_ ?_⟩
      · repeat (first | exact Keep.refl _ _ | refine Keep.drew ?_ | refine Keep.drewN ?_ _ | refine Keep.alloc ?_ _ | refine Keep.setCell ?_ (fun _ h => by first | exact h.1 rfl | exact h.2 rfl) _)
      · rw [show ((at_ + 1 : Nat) : Int) = (at_ : Int) + 1 by omega]
        exact cell_set_ne (cell_set_ne (World.cell?_setCell_same' _ _ _ (by rw [k2]; rfl)) (.inl hwab)) (.inl hwab)
      · rw [World.frozen?_setCell, World.frozen?_setCell, World.frozen?_setCell]; exact kf2
    · have hA : feedAns xs fail at_ = if fail = 0 then ((0, 0), false, 0) else ((99, 99), true, fail) := by unfold feedAns; rw [if_neg hlt]
      have hN : feedNext xs at_ = at_ := by unfold feedNext; rw [if_neg hlt]
      have HX := Lib.hid hN
      clear hN
      by_cases hf : fail = 0
      · rw [if_pos hf] at hA
        have HA := Lib.hid hA
        clear hA
        go_wp2_with fail
        refine bodyPost_ret (v := .tuple #[It.val (0,0), .bool false, .int .i64 0]) (by simp [results, Try.results43, go_sem, *, It.val]) rfl ?_
        rw [HA.out, HX.out]
        refine ⟨rfl, v1, CLH.out _ _ ?_ ?_ ?_⟩
        · repeat (first | exact Keep.refl _ _ | refine Keep.drew ?_ | refine Keep.drewN ?_ _ | refine Keep.alloc ?_ _ | refine Keep.setCell ?_ (fun _ h => by first | exact h.1 rfl | exact h.2 rfl) _)
        · first | exact cell_set_ne (cell_set_ne k2 (.inl hwab)) (.inl hwab) | exact k2
        · first | exact kf2 | exact ((World.frozen?_setCell _ _ _ _).trans (World.frozen?_setCell _ _ _ _)).trans kf2
      · rw [if_neg hf] at hA
        have HA := Lib.hid hA
        clear hA
        go_wp2_with fail
        go_region
        go_wp2_with fail
        refine bodyPost_ret (v := .tuple #[It.val (99,99), .bool true, .int .i64 fail]) (by simp [results, Try.results43, go_sem, *, It.val]) rfl ?_
        rw [HA.out, HX.out]
        refine ⟨rfl, v1, CLH.out _ _ ?_ ?_ ?_⟩
        · repeat (first | exact Keep.refl _ _ | refine Keep.drew ?_ | refine Keep.drewN ?_ _ | refine Keep.alloc ?_ _ | refine Keep.setCell ?_ (fun _ h => by first | exact h.1 rfl | exact h.2 rfl) _)
        · first | exact cell_set_ne (cell_set_ne k2 (.inl hwab)) (.inl hwab) | exact k2
        · first | exact kf2 | exact ((World.frozen?_setCell _ _ _ _).trans (World.frozen?_setCell _ _ _ _)).trans kf2
end Go.Proofs.Ytmhdalalicomkaa
