/- A gauge's source is made; a tree is made. -/
import Derived.Test.YtmhdalalicomkaaC3
namespace Go.Proofs.Ytmhdalalicomkaa
open Go.RowKit

/-- The boxes of a source's variables: the gauge, its number, the feed, the place. -/
structure SrcBoxes (w : World) (G i b : Nat) (la : Option Addr) (n cap : Nat) (fail : Int) : Prop where
  b0 : w.heap[b]? = some (.cells #[.pointer (some ⟨G, 0, none⟩)] 23 (0, 0))
  b1 : w.heap[b + 1]? = some (.cells #[.int .i64 (i : Nat)] 3 (0, 0))
  b2 : w.heap[b + 1 + 1]? = some (.cells #[.slice la n cap, .int .i64 fail] 72 (0, 0))
  b3 : w.heap[b + 1 + 1 + 1]? = some (.cells #[.int .i64 0] 3 (0, 0))
theorem SrcBoxes.keep {w w' : World} {G i b n cap : Nat} {la : Option Addr} {fail : Int} {S : Nat → Prop} (h : SrcBoxes w G i b la n cap fail) (K : Keep S w w') (hs : ∀ j, b ≤ j → j ≤ b + 3 → S j) : SrcBoxes w' G i b la n cap fail :=
  ⟨K.heap (hs _ (by omega) (by omega)) h.b0, K.heap (hs _ (by omega) (by omega)) h.b1, K.heap (hs _ (by omega) (by omega)) h.b2, K.heap (hs _ (by omega) (by omega)) h.b3⟩

def clo (b : Nat) : Value := .func (.func 43) #[] #[.pointer (some ⟨b, 0, none⟩), .pointer (some ⟨b + 1, 0, none⟩), .pointer (some ⟨b + 1 + 1 + 1, 0, none⟩), .pointer (some ⟨b + 1 + 1, 0, none⟩)]

set_option maxRecDepth 100000 in
set_option maxHeartbeats 4000000 in
theorem source_any (w : World) (G i n cap : Nat) (la : Option Addr) (fail : Int) :
    Calls Try.prog 30 #[.pointer (some ⟨G, 0, none⟩), .int .i64 (i : Nat), .agg #[.slice la n cap, .int .i64 fail]] w fun e w' =>
      e = .returned (clo w.heap.size) ∧ SrcBoxes w' G i w.heap.size la n cap fail ∧ Keep (fun _ => True) w w' ∧ w'.heap.size = w.heap.size + 4 := by
  go_enter Try.func30, Try.ntmps30
  go_wp2_with fail
  go_ret
  refine ⟨rfl, ⟨?_, ?_, ?_, ?_⟩, ?_, by simp⟩
  · exact alloc_far (alloc_far (alloc_far (alloc_new _ _) _) _) _
  · exact alloc_far (alloc_far (by simpa using alloc_new (w.alloc (.cells #[.pointer (some ⟨G, 0, none⟩)] 23)) _) _) _
  · exact alloc_far (by simpa using alloc_new ((w.alloc (.cells #[.pointer (some ⟨G, 0, none⟩)] 23)).alloc (.cells #[.int .i64 (i : Nat)] 3)) _) _
  · simpa using alloc_new (((w.alloc (.cells #[.pointer (some ⟨G, 0, none⟩)] 23)).alloc (.cells #[.int .i64 (i : Nat)] 3)).alloc _) (.cells #[.int .i64 0] 3)
  · repeat (first | exact Keep.refl _ _ | refine Keep.drew ?_ | refine Keep.drewN ?_ _ | refine Keep.alloc ?_ _)

theorem info54 : (Try.prog.info? 54).map (fun i => (i.zero, i.size, i.bytes)) = some (some .nilFunc, 1, 8) := by kernel_rfl
theorem info81 : (Try.prog.info? 81).map (fun i => (i.zero, i.size, i.bytes)) = some (some (.agg #[.nilFunc, .int .i64 0, .int .i64 0, .bool false]), 4, 32) := by kernel_rfl
theorem info4 : (Try.prog.info? 4).map (fun i => (i.zero, i.size, i.bytes)) = some (some (.bool false), 1, 1) := by kernel_rfl
theorem info72 : (Try.prog.info? 72).map (fun i => (i.zero, i.size, i.bytes)) = some (some (.agg #[.slice none 0 0, .int .i64 0]), 2, 32) := by kernel_rfl
theorem info35 : (Try.prog.info? 35).map (fun i => (i.zero, i.size, i.bytes)) = some (some (.agg #[.int .i64 0, .int .i64 0]), 2, 16) := by kernel_rfl
end Go.Proofs.Ytmhdalalicomkaa
