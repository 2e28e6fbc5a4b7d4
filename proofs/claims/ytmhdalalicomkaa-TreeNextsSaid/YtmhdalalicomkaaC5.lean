/- A tree is made. -/
import Derived.Test.YtmhdalalicomkaaC4
namespace Go.Proofs.Ytmhdalalicomkaa
open Go.RowKit

theorem run_equalIn_func_nil {P : Program} (w : World) (d : Nat) (t : TypeId) (f : FuncId) (b : Array Value) (x y : Array TypeId) (z : Bool) (h : P.underlying t = some (.func x y z)) :
    (Op.equalIn (d + 1) t (.func (.func f) #[] b) .nilFunc).run P w = .ok false w := by
  simp [Op.equalIn, run_underlying h]
theorem run_eql_func_nil {P : Program} (w : World) (t : TypeId) (f : FuncId) (b : Array Value) (x y : Array TypeId) (z : Bool) (h : P.underlying t = some (.func x y z)) :
    (binOp .eql t (.func (.func f) #[] b) .nilFunc).run P w = .ok (.bool false) w := by
  simp only [binOp]
  simp [Op.equal, Op.maxDepth, run_equalIn_func_nil w 9999 t f b x y z h]

def fnVal (gs : Nat → FuncId) (lbs : Nat → Array Value) (j : Nat) : Value := .func (.func (gs j)) #[] (lbs j)
def newLeaves (gs : Nat → FuncId) (lbs : Nat → Array Value) (k : Nat) : List Leaf := (List.range k).map fun j => ⟨fnVal gs lbs j, (0, 0), false⟩
def leafCells (gs : Nat → FuncId) (lbs : Nat → Array Value) (k : Nat) : List Value := (List.range k).flatMap fun j => [fnVal gs lbs j, .int .i64 0, .int .i64 0, .bool false]
def newS (gs : Nat → FuncId) (lbs : Nat → Array Value) (og : FuncId) (ob : Array Value) (k : Nat) : TS := ⟨.func (.func og) #[] ob, newLeaves gs lbs k, List.replicate k 0, 0, false, false, 0, 0, 0⟩
def newCells (og : FuncId) (ob : Array Value) (v : Value) (M k : Nat) : Array Value := #[.func (.func og) #[] ob, v, .slice (some ⟨M, 0, none⟩) k k, .int .i64 0, .bool false, .bool false, .int .i64 0, .int .i64 0, .int .i64 0]

theorem leafCells_succ (gs : Nat → FuncId) (lbs : Nat → Array Value) (k : Nat) : leafCells gs lbs (k + 1) = leafCells gs lbs k ++ [fnVal gs lbs k, .int .i64 0, .int .i64 0, .bool false] := by
  simp [leafCells, List.range_succ]

/-- A tree in the making: j leaves stand. -/
structure NewAt (w wr : World) (og : FuncId) (ob : Array Value) (gs : Nat → FuncId) (lbs : Nat → Array Value) (T M k j : Nat) (v : Value) : Prop where
  t : wr.heap[T]? = some (.cells (newCells og ob v M k) 77 (0, 0))
  m : ∃ D, wr.heap[M]? = some (.cells D 3 (0, 0)) ∧ natRow D (List.replicate k 0)
  own : wr.ownsRow (T + 1) 81 4 v j (leafCells gs lbs j)
  keep : Keep (fun _ => True) w wr
  lt : M < T
  lo : w.heap.size ≤ M

theorem newAt_zero (w w0 : World) (og : FuncId) (ob : Array Value) (gs : Nat → FuncId) (lbs : Nat → Array Value) (k : Nat)
    (hown : w0.ownsRow w.heap.size 3 1 (.slice (some ⟨w.heap.size, 0, none⟩) k k) k (madeCells (Value.int .i64 0).cells (k * 1)).toList) (hg : w.grownBy w0 none) :
    NewAt w (w0.alloc (.cells (newCells og ob (.slice none 0 0) w.heap.size k) 77)) og ob gs lbs w0.heap.size w.heap.size k 0 (.slice none 0 0) := by
  obtain ⟨e, h⟩ := hown
  rcases h with ⟨h1, _⟩ | ⟨g, cap, cur, h1, hb, hh, h2, h3, h4, h5⟩
  · cases h1
  · cases h1
    have hl := lt_of_heap hh
    refine ⟨alloc_new _ _, ⟨cur, alloc_far hh _, by simpa using h4, fun i hi => ?_⟩, ?_, (((Keep.refl _ w).grown hg (fun _ h => by cases h)).alloc _), hl, Nat.le_refl _⟩
    · simp only [List.length_replicate] at hi
      have hs : cur.size = k := by simpa using h4
      have : cur.toList[i]? = (madeCells (Value.int .i64 0).cells (k * 1)).toList[i]? := by rw [← h5, List.getElem?_take, if_pos (by omega)]
      rw [← Array.getElem?_toList, this]
      simp [madeCells, Value.cells, hi, List.getD_eq_getElem?_getD]
      rw [Nat.mod_one]; rfl
    · exact World.ownsRow_nil _ _ _ _
theorem newAt_mid {w wr w1 : World} {og : FuncId} {ob : Array Value} {gs : Nat → FuncId} {lbs : Nat → Array Value} {T M k j : Nat} {v : Value} (h : NewAt w wr og ob gs lbs T M k j v) (o : Obj) (hg : (wr.alloc o).grownBy w1 v.ownBlock) :
    w1.cell? ⟨T, 1, none⟩ = some v ∧ w1.frozen? ⟨T, 1, none⟩ = false ∧ T < w1.heap.size := by
  have K : Keep (fun b => v.ownBlock ≠ some b) wr w1 := ((Keep.refl (fun b => v.ownBlock ≠ some b) wr).alloc o).grown hg (fun b hb _ hs => hs hb)
  have ht := K.heap (fun e => by have := (own_lo h.own T e).1; omega) h.t
  exact ⟨by rw [cell_blk ht]; rfl, frozen_blk ht 1, lt_of_heap ht⟩
theorem newAt_succ {w wr w1 : World} {og : FuncId} {ob : Array Value} {gs : Nat → FuncId} {lbs : Nat → Array Value} {T M k j : Nat} {v v1 : Value} (h : NewAt w wr og ob gs lbs T M k j v) (o : Obj)
    (hown : w1.ownsRow (T + 1) 81 4 v1 (j + 1) (leafCells gs lbs j ++ [fnVal gs lbs j, .int .i64 0, .int .i64 0, .bool false])) (hg : (wr.alloc o).grownBy w1 v.ownBlock) :
    NewAt w (w1.setCell ⟨T, 1, none⟩ v1) og ob gs lbs T M k (j + 1) v1 := by
  have own : ∀ b, b < T + 1 → v.ownBlock ≠ some b := fun b hb e => by have := (own_lo h.own b e).1; omega
  have K : Keep (fun b => v.ownBlock ≠ some b) wr w1 := ((Keep.refl (fun b => v.ownBlock ≠ some b) wr).alloc o).grown hg (fun b hb _ hs => hs hb)
  obtain ⟨D, hD, hn⟩ := h.m
  have hlt := h.lt
  refine ⟨?_, ⟨D, set_far (K.heap (own M (by omega)) hD) (show M ≠ T by omega) _, hn⟩, ?_, ?_, h.lt, h.lo⟩
  · rw [set_blk (K.heap (own T (by omega)) h.t)]
    rfl
  · rw [leafCells_succ]
    exact ownsRow_setCell_below hown (show T < T + 1 by omega) _
  · exact (((Keep.refl (fun b => b < w.heap.size) w).trans (h.keep.mono (fun _ _ _ => trivial))).trans (K.mono (fun b _ hb => own b (by have := h.lo; omega)))).setCell (a := ⟨T, 1, none⟩) (fun _ hs => by have := h.lo; simp only at hs; omega) _ |>.mono (fun _ hb _ => hb)

theorem leafCells_length (gs : Nat → FuncId) (lbs : Nat → Array Value) (k : Nat) : (leafCells gs lbs k).length = k * 4 := by
  induction k with
  | zero => rfl
  | succ k ih => rw [leafCells_succ, List.length_append, ih]; simp; omega
theorem leafCells_get (gs : Nat → FuncId) (lbs : Nat → Array Value) (k i q : Nat) (hi : i < k) (hq : q < 4) : (leafCells gs lbs k)[i * 4 + q]? = [fnVal gs lbs i, .int .i64 0, .int .i64 0, .bool false][q]? := by
  induction k with
  | zero => omega
  | succ k ih =>
    rw [leafCells_succ]
    by_cases h : i < k
    · rw [List.getElem?_append_left (by rw [leafCells_length]; omega)]
      exact ih h
    · obtain rfl : i = k := by omega
      rw [List.getElem?_append_right (by rw [leafCells_length]; omega), leafCells_length]
      congr 1
      omega
theorem newLeaves_length (gs : Nat → FuncId) (lbs : Nat → Array Value) (k : Nat) : (newLeaves gs lbs k).length = k := by simp [newLeaves]
theorem newLeaves_get (gs : Nat → FuncId) (lbs : Nat → Array Value) (k i : Nat) (hi : i < k) : (newLeaves gs lbs k).getD i default = ⟨fnVal gs lbs i, (0, 0), false⟩ := by
  simp [newLeaves, List.getD_eq_getElem?_getD, hi]

theorem newAt_done {w wr : World} {og : FuncId} {ob : Array Value} {gs : Nat → FuncId} {lbs : Nat → Array Value} {T M k : Nat} {v : Value} (h : NewAt w wr og ob gs lbs T M k k v) (hk : k ≤ 64) :
    ∃ L, TreeAt wr T L M (newS gs lbs og ob k) ∧ w.heap.size ≤ T ∧ w.heap.size ≤ L ∧ w.heap.size ≤ M := by
  obtain ⟨D, hD, hn⟩ := h.m
  have hlt := h.lt
  have hlo := h.lo
  have hT := lt_of_heap h.t
  have hlen : (newS gs lbs og ob k).leaves.length = k := newLeaves_length gs lbs k
  have ht := h.t
  rcases h.own with ⟨e, ⟨rfl, rfl⟩ | ⟨g, cap, cur, rfl, hb, hh, h2, h3, h4, h5⟩⟩
  · refine ⟨T, ⟨fun h => by rw [hlen] at h; omega, by omega, by omega, rfl, by rw [hlen]; omega, ⟨none, 0, by rw [ht]; rfl, fun h => by rw [hlen] at h; omega, by rw [hlen]; omega⟩, fun h => by rw [hlen] at h; omega, ⟨D, hD, hn⟩, hT⟩, by omega, by omega, hlo⟩
  · have hg := lt_of_heap hh
    refine ⟨g, ⟨fun _ => by omega, by omega, by omega, by simp [newS, newLeaves], by rw [hlen]; omega, ⟨_, cap, by rw [ht]; simp [treeCells, newCells, newS, newLeaves], fun _ => rfl, by rw [hlen]; omega⟩, fun _ => ⟨cur, hh, by rw [hlen]; omega, fun i hi => ?_⟩, ⟨D, hD, hn⟩, hg⟩, by omega, by omega, hlo⟩
    rw [hlen] at hi
    have hc : ∀ q, q < 4 → cur[i * 4 + q]? = [fnVal gs lbs i, .int .i64 0, .int .i64 0, .bool false][q]? := fun q hq => by
      rw [← leafCells_get gs lbs k i q hi hq, ← h5, List.getElem?_take, if_pos (by omega), Array.getElem?_toList]
    rw [show (newS gs lbs og ob k).leaves = newLeaves gs lbs k from rfl, newLeaves_get gs lbs k i hi]
    exact ⟨hc 0 (by omega), hc 1 (by omega), hc 2 (by omega), hc 3 (by omega)⟩

set_option maxRecDepth 100000 in
set_option maxHeartbeats 4000000 in
theorem new_any (w : World) (og : FuncId) (ob : Array Value) (gs : Nat → FuncId) (lbs : Nat → Array Value) (k kc sb so : Nat) (sa : Option Addr) (hsa : 0 < k → sa = some ⟨sb, so, none⟩)
    (hc : ∀ j, j < k → w.cell? ⟨sb, so + j, none⟩ = some (fnVal gs lbs j)) (hk : k ≤ 4398046511104) :
    Calls Try.prog 20 #[.func (.func og) #[] ob, .slice sa k kc] w fun e w' => Keep (fun _ => True) w w' ∧
      (64 < k → e = .returned (.tuple #[.pointer none, .int .i64 90])) ∧
      (k ≤ 64 → ∃ t L M, e = .returned (.tuple #[.pointer (some ⟨t, 0, none⟩), .int .i64 0]) ∧ TreeAt w' t L M (newS gs lbs og ob k) ∧ w.heap.size ≤ t ∧ w.heap.size ≤ L ∧ w.heap.size ≤ M) := by
  obtain ⟨i3, hi, hz0, hz1, hz2⟩ := info_parts info3
  obtain ⟨i81, hm81, hy0, hy1, hy2⟩ := info_parts info81
  have HC := Lib.hid hc
  clear hc
  have q58 : ∀ (w : World) (f : FuncId) (b : Array Value), (binOp .eql 58 (.func (.func f) #[] b) .nilFunc).run Try.prog w = .ok (.bool false) w := fun w f b => run_eql_func_nil w 58 f b _ _ _ Try.underlying58
  have q54 : ∀ (w : World) (f : FuncId) (b : Array Value), (binOp .eql 54 (.func (.func f) #[] b) .nilFunc).run Try.prog w = .ok (.bool false) w := fun w f b => run_eql_func_nil w 54 f b _ _ _ Try.underlying54
  by_cases hbig : 64 < k
  all_goals
    go_enter Try.func20, Try.ntmps20
    go_wp2_with (first
      | (at_make; refine wpList_make_full _ rfl _ _ 24 rfl w.heap.size 3 i3 (.int .i64 0) 1 Try.underlying24 hi hz0 hz1 .i64 .i64 _ _ k rfl rfl rfl rfl (by rw [hz2]; omega) (by unfold maxLen; omega) (Nat.le_refl _) ?_; intro w0 hown0 hgrow0))
    have HN0 := Lib.hid (newAt_zero w w0 og ob gs lbs k hown0 hgrow0)
    unfold newCells at HN0
    clear hown0 hgrow0
    go_loopw [8, 19] (fun v8 v19 wr => ∃ (j : Nat) (v : Value), v19 = .int .i64 (j : Nat) ∧ j ≤ k ∧ Hid (NewAt w wr og ob gs lbs w0.heap.size w.heap.size k j v)) (fun _ v19 _ => k - (intOf v19).toNat)
    case atStart => exact ⟨0, .slice none 0 0, rfl, by omega, HN0.out⟩
    case round =>
      obtain ⟨j, v, rfl, hj, HN⟩ := hrel
      have x1 : wr.cell? ⟨w0.heap.size, 1, none⟩ = some v := by rw [cell_blk HN.out.t]; rfl
      have xf : wr.frozen? ⟨w0.heap.size, 1, none⟩ = false := frozen_blk HN.out.t 1
      have xT : w0.heap.size < wr.heap.size := lt_of_heap HN.out.t
      by_cases hlt : j < k
      · obtain rfl := hsa (by omega)
        have xc := HN.out.keep.cell trivial (HC.out j hlt)
        unfold fnVal at xc
        go_wp2_with (first
          | (at_builtin; refine wpList_append_lies _ rfl (.tmp 29) (.tmp 32) 75 rfl (w0.heap.size + 1) 81 i81 _ 4 32 Try.underlying75 hm81 hy0 hy1 hy2 rfl (by decide) v j (leafCells gs lbs j) rfl (HN.out.own.alloc _) ⟨wr.heap.size, 0, none⟩ 1 1 [fnVal gs lbs j, .int .i64 0, .int .i64 0, .bool false] rfl rfl (World.news_of_block (cs := #[fnVal gs lbs j, .int .i64 0, .int .i64 0, .bool false]) (t := 81) (fr := (0, 0)) (heap_alloc_new _ _)) (by simp [fnVal, Value.oneCell']) (by decide) (by unfold maxLen; omega) (by omega) (by simp; omega) (wr.heap.size + 1) (by simp) ?_; intro g cp w1 hown1 hgrow1 hat1 hlt1; obtain ⟨y1, y2, y3⟩ := newAt_mid HN.out _ hgrow1; have HNN := Lib.hid (newAt_succ HN.out _ hown1 hgrow1); clear hown1 hgrow1 hat1 hlt1))
        go_roundw
        case rel => exact ⟨j + 1, _, by simp, by omega, HNN.out⟩
        case measure => simp [intOf]; omega
      · go_wp2_with fail
        go_ret2
        obtain rfl : j = k := by omega
        first
        | exact ⟨HN.out.keep, fun _ => rfl, fun h => by omega⟩
        | exact ⟨HN.out.keep, fun h => by omega, fun h => by
            obtain ⟨L, h1, h2, h3, h4⟩ := newAt_done HN.out h
            exact ⟨_, L, _, rfl, h1, h2, h3, h4⟩⟩
end Go.Proofs.Ytmhdalalicomkaa
