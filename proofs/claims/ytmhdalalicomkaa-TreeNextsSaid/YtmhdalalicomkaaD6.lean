/- Small functions. -/
import Derived.Test.YtmhdalalicomkaaD5
namespace Go.Proofs.Ytmhdalalicomkaa
open Go.RowKit

set_option maxRecDepth 100000 in
set_option maxHeartbeats 4000000 in
theorem num_any (w : World) (n : Int) : Calls Try.prog 12 #[.int .i64 n] w fun e w' => e = .returned (.int .i64 n) ∧ w' = w := by
  go_enter Try.func12, Try.ntmps12
  go_wp2_with fail
  go_ret
  exact ⟨rfl, rfl⟩

set_option maxRecDepth 100000 in
set_option maxHeartbeats 4000000 in
theorem err_any (w : World) (t L M : Nat) (S : TS) (h : TreeAt w t L M S) : Calls Try.prog 16 #[.pointer (some ⟨t, 0, none⟩)] w fun e w' => e = .returned (.tuple #[.int .i64 (S.at_ : Nat), .int .i64 S.err]) ∧ ∃ n, w' = w.drewN n := by
  obtain ⟨la, kc, -, -, -, -, -, -, c7, c8⟩ := h.cells0
  have l1 := World.block_lt_of_cell? w _ c7
  simp only at l1
  clear h
  go_enter Try.func16, Try.ntmps16
  go_wp2_with fail
  go_quiet (fail)
  go_wp2_with fail
  go_ret2
  exact ⟨rfl, nq, rfl⟩

set_option maxRecDepth 100000 in
set_option maxHeartbeats 4000000 in
theorem ints_same (w : World) (l : List Nat) (a b ca cb : Nat) (xa xb : Option Addr) (hxa : 0 < l.length → xa = some ⟨a, 0, none⟩) (hxb : 0 < l.length → xb = some ⟨b, 0, none⟩) (hl : l.length < 1000000)
    (ha : ∀ i, i < l.length → w.cell? ⟨a, i, none⟩ = some (.int .i64 (l.getD i 0 : Nat))) (hb : ∀ i, i < l.length → w.cell? ⟨b, i, none⟩ = some (.int .i64 (l.getD i 0 : Nat))) :
    Calls Try.prog 17 #[.slice xa l.length ca, .slice xb l.length cb] w fun e w' => e = .returned (.bool true) ∧ ∃ n, w' = w.drewN n := by
  have HA := Lib.hid ha
  have HB := Lib.hid hb
  clear ha hb
  generalize hn : l.length = n at *
  have HN := Lib.hid hn
  clear hn
  go_enter Try.func17, Try.ntmps17
  go_wp2_with fail
  go_loopw [5] (fun v5 wr => ∃ (i q : Nat), v5 = .int .i64 (i : Nat) ∧ i ≤ n ∧ wr = w.drewN q) (fun v5 _ => n - (intOf v5).toNat)
  case atStart => exact ⟨0, 0, rfl, by omega, rfl⟩
  case round =>
    obtain ⟨i, q, rfl, hi, rfl⟩ := hrel
    by_cases hlt : i < n
    · obtain rfl := hxa (by omega)
      obtain rfl := hxb (by omega)
      have c0 := HA.out i hlt
      have c1 := HB.out i hlt
      generalize l.getD i 0 = x at c0 c1
      go_wp2_with fail
      go_quiet (fail)
      go_wp2_with fail
      go_roundw
      case rel => exact ⟨i + 1, q + nq, by simp, by omega, by simp [World.drewN, Nat.add_assoc]⟩
      case measure => simp [intOf]; omega
    · go_wp2_with fail
      go_ret
      exact ⟨rfl, q, rfl⟩
end Go.Proofs.Ytmhdalalicomkaa
