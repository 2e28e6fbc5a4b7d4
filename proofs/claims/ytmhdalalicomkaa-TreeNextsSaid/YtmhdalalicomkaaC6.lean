/- A tree over a gauge's sources is made. -/
import Derived.Test.YtmhdalalicomkaaC5
import Derived.Lib.OwnKind
import Derived.Deep.DeepMust
namespace Go.Proofs.Ytmhdalalicomkaa
open Go.RowKit

def boxLbs (bx : Nat → Nat) (j : Nat) : Array Value := #[.pointer (some ⟨bx j, 0, none⟩), .pointer (some ⟨bx j + 1, 0, none⟩), .pointer (some ⟨bx j + 1 + 1 + 1, 0, none⟩), .pointer (some ⟨bx j + 1 + 1, 0, none⟩)]

/-- i sources stand. -/
structure Grown (w wr : World) (G : Nat) (fd : List Feed) (la : Nat → Option Addr) (cap : Nat → Nat) (i : Nat) (v : Value) (bx : Nat → Nat) : Prop where
  own : wr.ownsRow w.heap.size 54 1 v i ((List.range i).map fun j => clo (bx j))
  keep : Keep (fun _ => True) w wr
  box : ∀ j, j < i → SrcBoxes wr G j (bx j) (la j) (fd.getD j default).items.length (cap j) (fd.getD j default).fail
  lo : ∀ j, j < i → w.heap.size ≤ bx j ∧ bx j + 4 ≤ wr.heap.size
  sep : ∀ j j', j < j' → j' < i → bx j + 4 ≤ bx j'

theorem SrcBoxes.notOwn {w w' : World} {G i b n cap base m : Nat} {la : Option Addr} {fail : Int} {v : Value} {xs : List Value} (h : SrcBoxes w G i b la n cap fail) (hown : w.ownsRow base 54 1 v m xs) (j : Nat) (h1 : b ≤ j) (h2 : j ≤ b + 3) : v.ownBlock ≠ some j := by
  intro e
  obtain ⟨c, fz, hc⟩ := Lib.ownsRow_kind hown j e
  rcases (show j = b ∨ j = b + 1 ∨ j = b + 1 + 1 ∨ j = b + 1 + 1 + 1 by omega) with rfl | rfl | rfl | rfl
  · rw [h.b0] at hc; simp at hc
  · rw [h.b1] at hc; simp at hc
  · rw [h.b2] at hc; simp at hc
  · rw [h.b3] at hc; simp at hc

theorem grown_step {w wr W1 w2 : World} {G : Nat} {fd : List Feed} {la : Nat → Option Addr} {cap : Nat → Nat} {i : Nat} {v v1 : Value} {bx : Nat → Nat} (h : Grown w wr G fd la cap i v bx)
    (hs : SrcBoxes W1 G i wr.heap.size (la i) (fd.getD i default).items.length (cap i) (fd.getD i default).fail) (hk : Keep (fun _ => True) wr W1) (hz : W1.heap.size = wr.heap.size + 4) (o : Obj)
    (hown : w2.ownsRow w.heap.size 54 1 v1 (i + 1) (((List.range i).map fun j => clo (bx j)) ++ [clo wr.heap.size])) (hg : (W1.alloc o).grownBy w2 v.ownBlock) :
    Grown w w2 G fd la cap (i + 1) v1 (fun j => if j = i then wr.heap.size else bx j) := by
  have K : Keep (fun b => v.ownBlock ≠ some b) W1 w2 := ((Keep.refl (fun b => v.ownBlock ≠ some b) W1).alloc o).grown hg (fun b hb _ hs => hs hb)
  have own1 : W1.ownsRow w.heap.size 54 1 v i ((List.range i).map fun j => clo (bx j)) := ownsRow_keep h.own hk (fun _ _ => trivial)
  have hsz := K.size
  refine ⟨?_, ?_, fun j hj => ?_, fun j hj => ?_, fun j j' hj hj' => ?_⟩
  · rw [List.range_succ, List.map_append]
    rw [show (List.map (fun j => clo (if j = i then wr.heap.size else bx j)) (List.range i)) = (List.range i).map fun j => clo (bx j) from List.map_congr_left (fun j hj => by rw [if_neg (by have := List.mem_range.1 hj; omega)])]
    simpa using hown
  · exact (((Keep.refl (fun b => b < w.heap.size) w).trans (h.keep.mono (fun _ _ _ => trivial))).trans (hk.mono (fun _ _ _ => trivial))).trans (K.mono (fun b _ hb => fun e => by have := (own_lo h.own b e).1; omega)) |>.mono (fun _ hb _ => hb)
  · by_cases hji : j = i
    · subst hji
      rw [if_pos rfl]
      exact hs.keep K (fun q h1 h2 => hs.notOwn (w' := W1) own1 q h1 h2)
    · rw [if_neg hji]
      have hb := (h.box j (by omega)).keep hk (fun _ _ _ => trivial)
      exact hb.keep K (fun q h1 h2 => hb.notOwn (w' := W1) own1 q h1 h2)
  · by_cases hji : j = i
    · subst hji
      rw [if_pos rfl]
      exact ⟨h.keep.size, by omega⟩
    · rw [if_neg hji]
      have := h.lo j (by omega)
      omega
  · rw [if_neg (by omega)]
    by_cases hji : j' = i
    · rw [if_pos hji]
      exact (h.lo j (by omega)).2
    · rw [if_neg hji]
      exact h.sep j j' hj (by omega)

theorem grown_mid {w wr W1 : World} {G : Nat} {fd : List Feed} {la : Nat → Option Addr} {cap : Nat → Nat} {i : Nat} {v : Value} {bx : Nat → Nat} (h : Grown w wr G fd la cap i v bx) (hk : Keep (fun _ => True) wr W1) : W1.ownsRow w.heap.size 54 1 v i ((List.range i).map fun j => clo (bx j)) :=
  ownsRow_keep h.own hk (fun _ _ => trivial)

theorem grown_row {w wr : World} {G : Nat} {fd : List Feed} {la : Nat → Option Addr} {cap : Nat → Nat} {i : Nat} {v : Value} {bx : Nat → Nat} (h : Grown w wr G fd la cap i v bx) :
    ∃ sa sb kc, v = .slice sa i kc ∧ (0 < i → sa = some ⟨sb, 0, none⟩) ∧ ∀ j, j < i → wr.cell? ⟨sb, 0 + j, none⟩ = some (fnVal (fun _ => 43) (boxLbs bx) j) := by
  rcases h.own with ⟨e, ⟨rfl, rfl⟩ | ⟨g, cp, cur, rfl, hb, hh, h2, h3, h4, h5⟩⟩
  · exact ⟨none, 0, 0, rfl, fun h => by omega, fun j h => by omega⟩
  · refine ⟨_, g, cp, rfl, fun _ => rfl, fun j hj => ?_⟩
    rw [cell_blk hh, Nat.zero_add, ← Array.getElem?_toList]
    have : (cur.toList.take (i * 1))[j]? = ((List.range i).map fun j => clo (bx j))[j]? := by rw [h5]
    rw [List.getElem?_take, if_pos (by omega)] at this
    rw [this]
    simp [hj, clo, fnVal, boxLbs]

set_option maxRecDepth 100000 in
set_option maxHeartbeats 4000000 in
theorem grown_any (w : World) (G k kc sb so : Nat) (sa : Option Addr) (fd : List Feed) (la : Nat → Option Addr) (cap : Nat → Nat) (hk : fd.length = k) (hsa : 0 < k → sa = some ⟨sb, so, none⟩)
    (hc : ∀ j, j < k → w.cell? ⟨sb, so + j * 2, none⟩ = some (.slice (la j) (fd.getD j default).items.length (cap j)) ∧ w.cell? ⟨sb, so + j * 2 + 1, none⟩ = some (.int .i64 (fd.getD j default).fail)) (hk2 : k ≤ 4398046511104) :
    Calls Try.prog 11 #[.pointer (some ⟨G, 0, none⟩), .slice sa k kc] w fun e w' => Keep (fun _ => True) w w' ∧
      (64 < k → e = .returned (.tuple #[.pointer none, .int .i64 90])) ∧
      (k ≤ 64 → ∃ t L M B0 bx, e = .returned (.tuple #[.pointer (some ⟨t, 0, none⟩), .int .i64 0]) ∧ TreeAt w' t L M (newS (fun _ => 43) (boxLbs bx) 22 #[] k) ∧ B0 ≤ t ∧ B0 ≤ L ∧ B0 ≤ M ∧ w.heap.size ≤ B0 ∧
        (∀ j, j < k → SrcBoxes w' G j (bx j) (la j) (fd.getD j default).items.length (cap j) (fd.getD j default).fail) ∧ (∀ j, j < k → w.heap.size ≤ bx j ∧ bx j + 4 ≤ B0) ∧ (∀ j j', j < j' → j' < k → bx j + 4 ≤ bx j')) := by
  obtain ⟨i54, hm54, hy0, hy1, hy2⟩ := info_parts info54
  have HC := Lib.hid hc
  clear hc
  go_enter Try.func11, Try.ntmps11
  go_wp2_with fail
  go_loopw [6, 7] (fun v6 v7 wr => ∃ (i : Nat) (bx : Nat → Nat), v7 = .int .i64 (i : Nat) ∧ i ≤ k ∧ Hid (Grown w wr G fd la cap i v6 bx)) (fun _ v7 _ => k - (intOf v7).toNat)
  case atStart => exact ⟨0, fun _ => 0, rfl, by omega, ⟨World.ownsRow_nil _ _ _ _, Keep.refl _ _, fun j h => by omega, fun j h => by omega, fun j j' _ h => by omega⟩⟩
  case round =>
    obtain ⟨i, bx, rfl, hi, HN⟩ := hrel
    by_cases hlt : i < k
    · obtain rfl := hsa (by omega)
      have xc0 := HN.out.keep.cell trivial (HC.out i hlt).1
      have xc1 := HN.out.keep.cell trivial (HC.out i hlt).2
      generalize hn : (fd.getD i default).items.length = n at xc0
      generalize hf : (fd.getD i default).fail = f at xc1
      have HNN := Lib.hid hn
      have HFF := Lib.hid hf
      clear hn hf
      go_wp2_with fail
      refine (source_any wr G i n (cap i) (la i) f).mono ?_
      rintro e W1 ⟨rfl, hs, hK, hz⟩
      unfold clo
      have hz' : wr.heap.size + 4 = W1.heap.size := hz.symm
      rw [← HNN.out, ← HFF.out] at hs
      have HS := Lib.hid hs
      have HK := Lib.hid hK
      have HZ := Lib.hid hz
      clear hs hK hz xc0 xc1
      go_wp2_with (first
        | (at_builtin; go_must (refine wpList_append_lies _ rfl (.tmp 14) (.tmp 22) 52 rfl w.heap.size 54 i54 _ 1 8 Try.underlying52 hm54 hy0 hy1 hy2 rfl (by decide) u6 i ((List.range i).map fun j => clo (bx j)) rfl ((grown_mid HN.out HK.out).alloc _) ⟨W1.heap.size, 0, none⟩ 1 1 [clo wr.heap.size] rfl rfl (World.news_of_block (cs := #[clo wr.heap.size]) (t := 54) (fr := (0, 0)) (heap_alloc_new _ _)) (by simp [clo, Value.oneCell']) (by decide) (by unfold maxLen; omega) (by omega) (by simp; have := HN.out.keep.size; have := HK.out.size; omega) (W1.heap.size + 1) (by simp) ?_); intro g cp w1 hown1 hgrow1 hat1 hlt1; have HG := Lib.hid (grown_step HN.out HS.out HK.out HZ.out _ hown1 hgrow1); clear hown1 hgrow1 hat1 hlt1))
      go_roundw
      case rel => exact ⟨i + 1, _, by simp, by omega, HG.out⟩
      case measure => simp [intOf]; omega
    · obtain rfl : i = k := by omega
      obtain ⟨sa', sb', kc', rfl, hsa', hrow⟩ := grown_row HN.out
      have HNW := Lib.hid (new_any wr 22 #[] (fun _ => 43) (boxLbs bx) i kc' sb' 0 sa' hsa' hrow hk2)
      clear hsa' hrow
      by_cases hbig : 64 < i
      · go_wp2_with fail
        refine HNW.out.mono ?_
        rintro e W1 ⟨hK, h1, -⟩
        obtain rfl := h1 hbig
        have HK := Lib.hid hK
        clear hK h1
        go_wp2_with fail
        go_ret2
        exact ⟨HN.out.keep.trans HK.out, fun _ => rfl, fun h => by omega⟩
      · go_wp2_with fail
        refine HNW.out.mono ?_
        rintro e W1 ⟨hK, -, h1⟩
        obtain ⟨t, L, M, rfl, h2, h3, h4, h5⟩ := h1 (by omega)
        have HK := Lib.hid hK
        have H2 := Lib.hid h2
        have H3 := Lib.hid (And.intro h3 (And.intro h4 h5))
        clear hK h1 h2 h3 h4 h5
        go_wp2_with fail
        go_ret2
        refine ⟨HN.out.keep.trans HK.out, fun h => by omega, fun _ => ⟨t, L, M, wr.heap.size, bx, rfl, H2.out, H3.out.1, H3.out.2.1, H3.out.2.2, HN.out.keep.size, fun j hj => (HN.out.box j hj).keep HK.out (fun _ _ _ => trivial), HN.out.lo, HN.out.sep⟩⟩
end Go.Proofs.Ytmhdalalicomkaa
