/- The document's play is made; small functions. -/
import Derived.Test.YtmhdalalicomkaaD4
namespace Go.Proofs.Ytmhdalalicomkaa
open Go.RowKit

/-- 'make([]T, n)', n a variable, where the walk stands still at it. -/
theorem upon_make {P : Program} {w : World} {o : Oper} {a : Act} {K : Act → World → Prop} {Q : Exit → Act → World → Prop} {f : Value → World → Result Next}
    (t e : TypeId) (i : TypeInfo) (z : Value) (size : Nat) (h1 : P.underlying t = some (.slice e)) (h2 : P.info? e = some i) (h3 : i.zero = some z) (h4 : i.size = size)
    (n : Nat) (b2 : i.bytes * n ≤ 281474976710656) (b3 : n ≤ maxLen)
    (hK : ∀ w', w'.ownsRow 0 e size (.slice (some ⟨w.heap.size, 0, none⟩) n n) n (madeCells z.cells (n * size)).toList → w.grownBy w' none → Oper.upon P o a K Q (f (.slice (some ⟨w.heap.size, 0, none⟩) n n) w')) :
    Oper.upon P o a K Q (((Instr.makeSlice t (.int .i64 (n : Int)) (.int .i64 (n : Int))).run P w).andThen f) := by
  obtain ⟨w', hrun, r1, r2⟩ := run_make_full (P := P) w 0 t e i z size h1 h2 h3 h4 .i64 .i64 n b2 b3 (Nat.zero_le _)
  rw [hrun]
  exact hK w' r1 r2

theorem made_nat {w : World} {base A k : Nat} (hown : w.ownsRow base 3 1 (.slice (some ⟨A, 0, none⟩) k k) k (madeCells (Value.int .i64 0).cells (k * 1)).toList) : ∃ D, w.heap[A]? = some (.cells D 3 (0, 0)) ∧ natRow D (List.replicate k 0) := by
  obtain ⟨e, h⟩ := hown
  rcases h with ⟨h1, _⟩ | ⟨g, cap, cur, h1, hb, hh, h2, h3, h4, h5⟩
  · cases h1
  · cases h1
    refine ⟨cur, hh, by simpa using h4, fun i hi => ?_⟩
    simp only [List.length_replicate] at hi
    have hs : cur.size = k := by simpa using h4
    have : cur.toList[i]? = (madeCells (Value.int .i64 0).cells (k * 1)).toList[i]? := by rw [← h5, List.getElem?_take, if_pos (by omega)]
    rw [← Array.getElem?_toList, this]
    simp [madeCells, Value.cells, hi, List.getD_eq_getElem?_getD]
    rw [Nat.mod_one]; rfl
theorem made_bool {w : World} {base A k : Nat} (hown : w.ownsRow base 4 1 (.slice (some ⟨A, 0, none⟩) k k) k (madeCells (Value.bool false).cells (k * 1)).toList) : ∃ D, w.heap[A]? = some (.cells D 4 (0, 0)) ∧ boolRow D (List.replicate k false) := by
  obtain ⟨e, h⟩ := hown
  rcases h with ⟨h1, _⟩ | ⟨g, cap, cur, h1, hb, hh, h2, h3, h4, h5⟩
  · cases h1
  · cases h1
    refine ⟨cur, hh, by simpa using h4, fun i hi => ?_⟩
    simp only [List.length_replicate] at hi
    have hs : cur.size = k := by simpa using h4
    have : cur.toList[i]? = (madeCells (Value.bool false).cells (k * 1)).toList[i]? := by rw [← h5, List.getElem?_take, if_pos (by omega)]
    rw [← Array.getElem?_toList, this]
    simp [madeCells, Value.cells, hi, List.getD_eq_getElem?_getD]
    rw [Nat.mod_one]; rfl

def newP (k : Nat) : PS := ⟨List.replicate k 0, List.replicate k false, false, -1, [], 0, 0⟩

theorem newPlay_close {w w2 : World} {A H k : Nat} (sa : Option Addr) (kc : Nat) (K : Keep (fun _ => True) w w2) (hD : ∃ D, w2.heap[A]? = some (.cells D 3 (0, 0)) ∧ natRow D (List.replicate k 0)) (hD' : ∃ D, w2.heap[H]? = some (.cells D 4 (0, 0)) ∧ boolRow D (List.replicate k false))
    (hA : w.heap.size ≤ A) (hH : w.heap.size ≤ H) :
    Keep (fun _ => True) w (w2.alloc (.cells #[.slice sa k kc, .slice (some ⟨A, 0, none⟩) k k, .slice (some ⟨H, 0, none⟩) k k, .bool false, .int .i64 (-1), .slice none 0 0, .int .i64 0, .int .i64 0] 45)) ∧
    ∃ g : PGeo, Ending.returned (.pointer (some ⟨w2.heap.size, 0, none⟩)) = Ending.returned (.pointer (some ⟨g.p, 0, none⟩)) ∧ g.Ok ∧ g.B1 = w.heap.size ∧ g.sa = sa ∧ g.k = k ∧ g.kc = kc ∧
      g.base = (w2.alloc (.cells #[.slice sa k kc, .slice (some ⟨A, 0, none⟩) k k, .slice (some ⟨H, 0, none⟩) k k, .bool false, .int .i64 (-1), .slice none 0 0, .int .i64 0, .int .i64 0] 45)).heap.size ∧
      PlayAt (w2.alloc (.cells #[.slice sa k kc, .slice (some ⟨A, 0, none⟩) k k, .slice (some ⟨H, 0, none⟩) k k, .bool false, .int .i64 (-1), .slice none 0 0, .int .i64 0, .int .i64 0] 45)) g (newP k) (.slice none 0 0) := by
  obtain ⟨D, d1, d2⟩ := hD
  obtain ⟨D', d3, d4⟩ := hD'
  have l1 := lt_of_heap d1
  have l2 := lt_of_heap d3
  have hAH : A ≠ H := fun e => by subst e; rw [d1] at d3; simp at d3
  refine ⟨K.alloc _, ⟨w2.heap.size, A, H, w2.heap.size + 1, w.heap.size, sa, k, kc⟩, rfl, ⟨by show w2.heap.size ≠ A; omega, by show w2.heap.size ≠ H; omega, hAH, ⟨by show w.heap.size ≤ w2.heap.size; omega, by show w2.heap.size < w2.heap.size + 1; omega⟩, ⟨hA, by show A < w2.heap.size + 1; omega⟩, ⟨hH, by show H < w2.heap.size + 1; omega⟩⟩, rfl, rfl, rfl, rfl, by simp, ?_⟩
  exact ⟨by simp [newP], by simp [newP], alloc_new _ _, World.ownsRow_nil _ _ _ _, ⟨D, alloc_far d1 _, d2⟩, ⟨D', alloc_far d3 _, d4⟩, by simp⟩

set_option maxRecDepth 100000 in
set_option maxHeartbeats 16000000 in
theorem newPlay_any (w : World) (k kc : Nat) (sa : Option Addr) (hk : k ≤ 64) :
    Calls Try.prog 13 #[.slice sa k kc] w fun e w' => Keep (fun _ => True) w w' ∧ ∃ g : PGeo, e = .returned (.pointer (some ⟨g.p, 0, none⟩)) ∧ g.Ok ∧ g.B1 = w.heap.size ∧ g.sa = sa ∧ g.k = k ∧ g.kc = kc ∧ g.base = w'.heap.size ∧ PlayAt w' g (newP k) (.slice none 0 0) := by
  obtain ⟨i3, hi, hz0, hz1, hz2⟩ := info_parts info3
  obtain ⟨i4, hj, hy0, hy1, hy2⟩ := info_parts info4
  go_enter Try.func13, Try.ntmps13
  go_wp2_with fail
  go_region_with (first
    | (refine upon_make 24 3 i3 (.int .i64 0) 1 Try.underlying24 hi hz0 hz1 k (by rw [hz2]; omega) (by unfold maxLen; omega) ?_; intro wA hA hgA; go_simp)
    | (refine upon_make 43 4 i4 (.bool false) 1 Try.underlying43 hj hy0 hy1 k (by rw [hy2]; omega) (by unfold maxLen; omega) ?_; intro wH hH hgH; go_simp))
  all_goals (go_wp2_with fail)
  · have KA : Keep (fun _ => True) w wA := ((Keep.refl (fun _ => True) w).drew).grown hgA (fun _ h => by cases h)
    have KH : Keep (fun _ => True) wA wH := (Keep.refl (fun _ => True) wA).grown hgH (fun _ h => by cases h)
    have hDA : ∃ D, wH.heap[w.heap.size]? = some (.cells D 3 (0, 0)) ∧ natRow D (List.replicate k 0) := by
      obtain ⟨D, d1, d2⟩ := made_nat hA
      exact ⟨D, KH.heap trivial d1, d2⟩
    have hC := newPlay_close sa kc (KA.trans KH) hDA (made_bool hH) (Nat.le_refl _) KA.size
    exact bodyPost_ret (v := .pointer (some ⟨wH.heap.size, 0, none⟩)) (by simp [results, Try.results13, go_sem, Act.put]) rfl hC
  · have KH : Keep (fun _ => True) w wH := ((Keep.refl (fun _ => True) w).drew).grown hgH (fun _ h => by cases h)
    have KA : Keep (fun _ => True) wH wA := (Keep.refl (fun _ => True) wH).grown hgA (fun _ h => by cases h)
    have hDH : ∃ D, wA.heap[w.heap.size]? = some (.cells D 4 (0, 0)) ∧ boolRow D (List.replicate k false) := by
      obtain ⟨D, d1, d2⟩ := made_bool hH
      exact ⟨D, KA.heap trivial d1, d2⟩
    have hC := newPlay_close sa kc (KH.trans KA) (made_nat hA) hDH KH.size (Nat.le_refl _)
    exact bodyPost_ret (v := .pointer (some ⟨wA.heap.size, 0, none⟩)) (by simp [results, Try.results13, go_sem, Act.put]) rfl hC
end Go.Proofs.Ytmhdalalicomkaa
