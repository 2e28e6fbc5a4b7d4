/- TreeNexts: the feeds as they come in. -/
import Derived.Test.YtmhdalalicomkaaE2
import Derived.ProofKit
import Derived.SizedLaws
import Derived.Deep.Slices
import Derived.Deep.SlicePairs
namespace Go.Proofs.Ytmhdalalicomkaa
open Go.ChangeShapes Go.WideShapes Go.ChangeAt Go.RowKit Go.Deep

theorem Try.cells35 : Try.prog.cellsOf 35 = 2 := by kernel_rfl
theorem Try.cells72 : Try.prog.cellsOf 72 = 2 := by kernel_rfl
theorem Try.cells56 : Try.prog.cellsOf 56 = 1 := by kernel_rfl
theorem Try.cells3 : Try.prog.cellsOf 3 = 1 := by kernel_rfl
theorem Try.bytes72 : Try.prog.bytesOf 72 = 32 := by kernel_rfl
section
variable {H : Type} {enc : TypeId × Value → H}

/-- A feed's items. -/
theorem open_items {W : World} {sp : Nat → Bool} {fuel : Nat} {cs : List Value} {x : DataW H × List MemPlace} (h : DataW.trod enc Try.prog W 0 sp true fuel 56 cs = some x) :
    ∃ (la : Option Addr) (cp : Nat) (xs : List It), cs = [.slice la xs.length cp] ∧ xs.length ≤ 9223372036854775807 ∧ (0 < xs.length → ∃ lb lo, la = some ⟨lb, lo, none⟩ ∧ lb < W.heap.size) ∧
      ∀ j, j < xs.length → ∀ lb lo, la = some ⟨lb, lo, none⟩ → W.cell? ⟨lb, lo + j * 2, none⟩ = some (.int .i64 (xs.getD j (0, 0)).1) ∧ W.cell? ⟨lb, lo + j * 2 + 1, none⟩ = some (.int .i64 (xs.getD j (0, 0)).2) := by
  rcases open_slice_pairs Try.underlying56 Try.underlying35 Try.cells35 rfl rfl Try.cells3 Try.cells3 h with ⟨rfl, -⟩ | ⟨a, len, cap, m, n, V0, V1, D0, D1, P0, P1, rfl, -, hl, hm, hmm, -, hx⟩
  · exact ⟨none, 0, [], rfl, by decide, fun h => by simp at h, fun j h => by simp at h⟩
  · have hlm : len ≤ m := by rw [hmm]; split <;> omega
    have each : ∀ i, i < len → ∃ q : It, W.cell? (a.add (i * 2)) = some (.int .i64 q.1) ∧ W.cell? (a.add (i * 2 + 1)) = some (.int .i64 q.2) := by
      intro i hi
      obtain ⟨c0, c1, t0, t1⟩ := hx i (by omega)
      obtain ⟨q0, e0, -, -⟩ := DataW.trod_int Try.underlying3 t0
      obtain ⟨q1, e1, -, -⟩ := DataW.trod_int Try.underlying3 t1
      simp only [List.cons.injEq, and_true] at e0 e1
      exact ⟨(q0, q1), by rw [c0, e0], by rw [c1, e1]⟩
    obtain ⟨q, hq⟩ := choose_lt each
    have hget : ∀ j, j < len → (((List.range len).map q).getD j (0, 0)) = q j := fun j hj => by simp [List.getD_eq_getElem?_getD, hj]
    refine ⟨some a, cap, (List.range len).map q, by simp, by simp; unfold maxLen at hm; omega, fun h => ?_, fun j hj lb lo e => ?_⟩
    · simp at h
      obtain ⟨c0, -⟩ := hq 0 h
      obtain ⟨b, off, spot⟩ := a
      have hspot : spot = none := by simpa [Addr.add] using World.cell?_spot c0
      subst hspot
      exact ⟨b, off, rfl, by have := World.block_lt_of_cell? W _ c0; simpa [Addr.add] using this⟩
    · simp only [List.length_map, List.length_range] at hj
      rw [hget j hj]
      cases e
      obtain ⟨c0, c1⟩ := hq j hj
      rw [add_plain] at c0 c1
      exact ⟨c0, by rw [Nat.add_assoc]; exact c1⟩

/-- The feeds. -/
theorem open_feeds {W : World} {fuel : Nat} {cs : List Value} {x : DataW H × List MemPlace} (h : DataW.trod enc Try.prog W 0 (fun _ => true) true fuel 22 cs = some x) :
    ∃ (sa : Option Addr) (sb so cp : Nat) (fd : List Feed) (la : Nat → Option Addr) (cap : Nat → Nat), cs = [.slice sa fd.length cp] ∧ (0 < fd.length → sa = some ⟨sb, so, none⟩) ∧ FeedMem W fd sb so W.heap.size la cap ∧
      (fd.length = 0 ∨ ∃ e s, x.1 = .slice e s ∧ fd.length ≤ e.length + s.length) := by
  rcases open_slice_pairs Try.underlying22 Try.underlying72 Try.cells72 rfl rfl Try.cells56 Try.cells3 h with ⟨rfl, -⟩ | ⟨a, len, cap, m, n, V0, V1, D0, D1, P0, P1, rfl, -, hl, hm, hmm, rfl, hx⟩
  · exact ⟨none, 0, 0, 0, [], fun _ => none, fun _ => 0, rfl, fun h => by simp at h, ⟨fun h => by simp at h, fun i h => by simp at h, fun i h => by simp at h, fun i h => by simp at h, fun i h => by simp at h⟩, .inl rfl⟩
  · have hlm : len ≤ m := by rw [hmm]; split <;> omega
    have each : ∀ i, i < len → ∃ q : Feed × Option Addr × Nat, W.cell? (a.add (i * 2)) = some (.slice q.2.1 q.1.items.length q.2.2) ∧ W.cell? (a.add (i * 2 + 1)) = some (.int .i64 q.1.fail) ∧ q.1.items.length ≤ 9223372036854775807 ∧
        (0 < q.1.items.length → ∃ lb lo, q.2.1 = some ⟨lb, lo, none⟩ ∧ lb < W.heap.size) ∧
        ∀ j, j < q.1.items.length → ∀ lb lo, q.2.1 = some ⟨lb, lo, none⟩ → W.cell? ⟨lb, lo + j * 2, none⟩ = some (.int .i64 (q.1.items.getD j (0, 0)).1) ∧ W.cell? ⟨lb, lo + j * 2 + 1, none⟩ = some (.int .i64 (q.1.items.getD j (0, 0)).2) := by
      intro i hi
      obtain ⟨c0, c1, t0, t1⟩ := hx i (by omega)
      obtain ⟨la, cp, xs, e0, z1, z2, z3⟩ := open_items t0
      obtain ⟨q1, e1, -, -⟩ := DataW.trod_int Try.underlying3 t1
      simp only [List.cons.injEq, and_true] at e0 e1
      exact ⟨(⟨xs, q1⟩, la, cp), by rw [c0, e0], by rw [c1, e1], z1, z2, z3⟩
    obtain ⟨q, hq⟩ := choose_lt each
    have hget : ∀ j, j < len → (((List.range len).map fun i => (q i).1).getD j default) = (q j).1 := fun j hj => by simp [List.getD_eq_getElem?_getD, hj]
    have hlen : ((List.range len).map fun i => (q i).1).length = len := by simp
    have hspot : 0 < len → ∃ b off, a = ⟨b, off, none⟩ ∧ b < W.heap.size := fun hp => by
      obtain ⟨c0, -⟩ := hq 0 hp
      obtain ⟨b, off, spot⟩ := a
      have hspot : spot = none := by simpa [Addr.add] using World.cell?_spot c0
      subst hspot
      exact ⟨b, off, rfl, by have := World.block_lt_of_cell? W _ c0; simpa [Addr.add] using this⟩
    refine ⟨some a, a.block, a.off, cap, (List.range len).map fun i => (q i).1, fun i => (q i).2.1, fun i => (q i).2.2, by rw [hlen], fun hp => ?_, ⟨fun hp => ?_, fun i hi => ?_, fun i hi hp => ?_, fun i hi j hj lb lo e => ?_, fun i hi => ?_⟩, .inr ⟨_, _, rfl, by simp⟩⟩
    · rw [hlen] at hp
      obtain ⟨b, off, rfl, -⟩ := hspot hp
      rfl
    · rw [hlen] at hp
      obtain ⟨b, off, rfl, hb⟩ := hspot hp
      exact hb
    · rw [hlen] at hi
      obtain ⟨b, off, rfl, hb⟩ := hspot (by omega)
      obtain ⟨c0, c1, -⟩ := hq i hi
      rw [add_plain] at c0 c1
      rw [hget i hi]
      exact ⟨c0, by show W.cell? ⟨b, off + i * 2 + 1, none⟩ = _; rw [Nat.add_assoc]; exact c1⟩
    · rw [hlen] at hi
      rw [hget i hi] at hp
      exact (hq i hi).2.2.2.1 hp
    · rw [hlen] at hi
      rw [hget i hi] at hj ⊢
      exact (hq i hi).2.2.2.2 j hj lb lo e
    · rw [hlen] at hi
      rw [hget i hi]
      exact (hq i hi).2.2.1
end
end Go.Proofs.Ytmhdalalicomkaa
