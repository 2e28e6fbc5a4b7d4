/- The tree's leaves in memory: one of them is written. -/
import Derived.Test.YtmhdalalicomkaaB1
namespace Go.Proofs.Ytmhdalalicomkaa
open Go.RowKit

def leafCell (l : Leaf) : Nat → Value
  | 0 => l.fn
  | 1 => .int .i64 l.hand.1
  | 2 => .int .i64 l.hand.2
  | _ => .bool l.has

theorem TreeAt.putLeaf {w : World} {t L M : Nat} {S : TS} (h : TreeAt w t L M S) (i j : Nat) (v : Value) (lf : Leaf) (hi : i < S.leaves.length) (hj : j < 4)
    (hv : leafCell lf j = v) (ho : ∀ q, q < 4 → q ≠ j → leafCell lf q = leafCell (S.leaves.getD i default) q) :
    TreeAt (w.setCell ⟨L, i * 4 + j, none⟩ v) t L M { S with leaves := S.leaves.set i lf } := by
  obtain ⟨a, b, c, d, e, ⟨la, kc, f, g, g'⟩, i', ⟨D, j1, j2⟩, l⟩ := h
  obtain ⟨C, c1, c2, c3⟩ := i' (by omega)
  refine ⟨fun _ => a (by omega), b, c, by simpa using d, by simpa using e, ⟨la, kc, ?_, by simpa using g, by simpa using g'⟩, fun _ => ⟨_, set_blk c1 _ _, by simpa using c2, ?_⟩, ⟨D, set_far j1 (Ne.symm c) _, j2⟩, by simpa [World.setCell] using l⟩
  · rw [set_far f (a (by omega))]
    simp [treeCells]
  · intro q hq
    simp only [List.length_set] at hq
    have hcell : ∀ r, r < 4 → (C.setIfInBounds (i * 4 + j) v)[q * 4 + r]? = some (leafCell ((S.leaves.set i lf).getD q default) r) := by
      intro r hr
      have old : C[q * 4 + r]? = some (leafCell (S.leaves.getD q default) r) := by
        obtain ⟨h0, h1, h2, h3⟩ := c3 q hq
        match r, hr with
        | 0, _ => exact h0
        | 1, _ => exact h1
        | 2, _ => exact h2
        | 3, _ => exact h3
      by_cases hqi : q = i
      · subst hqi
        have hg : (S.leaves.set q lf).getD q default = lf := by simp [List.getD_eq_getElem?_getD, hq]
        rw [hg]
        by_cases hrj : r = j
        · subst hrj
          rw [Array.getElem?_setIfInBounds, if_pos rfl, if_pos (by omega), hv]
        · rw [Array.getElem?_setIfInBounds_ne (by omega), old, ho r hr hrj]
      · have hg : (S.leaves.set i lf).getD q default = S.leaves.getD q default := by simp [List.getD_eq_getElem?_getD, List.getElem?_set_ne (Ne.symm hqi)]
        rw [hg, Array.getElem?_setIfInBounds_ne (by omega), old]
    exact ⟨hcell 0 (by omega), hcell 1 (by omega), hcell 2 (by omega), hcell 3 (by omega)⟩

/-- The leaf whose hand is filled anew, as the code does it: emptied first, then filled if there is one. -/
theorem TreeAt.fill {w : World} {t L M : Nat} {S : TS} (h : TreeAt w t L M S) (i : Nat) (hi : i < S.leaves.length) (x : It) (ok : Bool) :
    TreeAt (((w.setCell ⟨L, i * 4 + 1, none⟩ (.int .i64 x.1)).setCell ⟨L, i * 4 + 2, none⟩ (.int .i64 x.2)).setCell ⟨L, i * 4 + 3, none⟩ (.bool ok)) t L M
      { S with leaves := S.leaves.set i { S.leaves.getD i default with hand := x, has := ok } } := by
  have g : ∀ l : Leaf, (S.leaves.set i l).getD i default = l := fun l => by simp [List.getD_eq_getElem?_getD, hi]
  have h1 := h.putLeaf i 1 (.int .i64 x.1) { S.leaves.getD i default with hand := (x.1, (S.leaves.getD i default).hand.2) } hi (by omega) rfl (fun q hq hne => by
    match q, hq, hne with
    | 0, _, _ => rfl
    | 2, _, _ => rfl
    | 3, _, _ => rfl)
  have h2 := h1.putLeaf i 2 (.int .i64 x.2) { S.leaves.getD i default with hand := x } (by simpa using hi) (by omega) rfl (fun q hq hne => by
    show leafCell _ q = leafCell ((S.leaves.set i _).getD i default) q
    rw [g]
    match q, hq, hne with
    | 0, _, _ => rfl
    | 1, _, _ => rfl
    | 3, _, _ => rfl)
  have h3 := h2.putLeaf i 3 (.bool ok) { S.leaves.getD i default with hand := x, has := ok } (by simpa using hi) (by omega) rfl (fun q hq hne => by
    show leafCell _ q = leafCell (((S.leaves.set i _).set i _).getD i default) q
    rw [List.set_set, g]
    match q, hq, hne with
    | 0, _, _ => rfl
    | 1, _, _ => rfl
    | 2, _, _ => rfl
    | q + 3, hq, hne => exact absurd (show q + 3 = 3 by omega) hne)
  simpa only [List.set_set] using h3

theorem TreeAt.fill2 {w : World} {t L M : Nat} {S : TS} (h : TreeAt w t L M S) (i : Nat) (hi : i < S.leaves.length) (x y : It) (ok : Bool) :
    TreeAt (((((w.setCell ⟨L, i * 4 + 1, none⟩ (.int .i64 y.1)).setCell ⟨L, i * 4 + 1 + 1, none⟩ (.int .i64 y.2)).setCell ⟨L, i * 4 + 3, none⟩ (.bool ok)).setCell ⟨L, i * 4 + 1, none⟩ (.int .i64 x.1)).setCell ⟨L, i * 4 + 1 + 1, none⟩ (.int .i64 x.2)) t L M
      { S with leaves := S.leaves.set i { S.leaves.getD i default with hand := x, has := ok } } := by
  have g : ∀ l : Leaf, (S.leaves.set i l).getD i default = l := fun l => by simp [List.getD_eq_getElem?_getD, hi]
  have h0 := h.fill i hi y ok
  have h1 := h0.putLeaf i 1 (.int .i64 x.1) { S.leaves.getD i default with hand := (x.1, y.2), has := ok } (by simpa using hi) (by omega) rfl (fun q hq hne => by
    show leafCell _ q = leafCell ((S.leaves.set i _).getD i default) q
    rw [g]
    match q, hq, hne with
    | 0, _, _ => rfl
    | 2, _, _ => rfl
    | 3, _, _ => rfl)
  have h2 := h1.putLeaf i 2 (.int .i64 x.2) { S.leaves.getD i default with hand := x, has := ok } (by simpa using hi) (by omega) rfl (fun q hq hne => by
    show leafCell _ q = leafCell (((S.leaves.set i _).set i _).getD i default) q
    rw [List.set_set, g]
    match q, hq, hne with
    | 0, _, _ => rfl
    | 1, _, _ => rfl
    | 3, _, _ => rfl)
  simpa only [List.set_set] using h2

end Go.Proofs.Ytmhdalalicomkaa
