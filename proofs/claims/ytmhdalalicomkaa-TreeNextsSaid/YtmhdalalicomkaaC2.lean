/- The gauge's sources and the order by key, as the tree's environment. -/
import Derived.Test.YtmhdalalicomkaaC1
namespace Go.Proofs.Ytmhdalalicomkaa
open Go.RowKit

def byKeyF (x y : It) : Int := if x.1 < y.1 then -1 else if y.1 < x.1 then 1 else 0

set_option maxRecDepth 100000 in
set_option maxHeartbeats 4000000 in
theorem byKey_any (x y : It) (w : World) : Calls Try.prog 22 #[It.val x, It.val y] w fun e w' => e = .returned (.int .i64 (byKeyF x y)) ∧ Keep (fun _ => True) w w' := by
  by_cases h1 : x.1 < y.1
  · have hF : byKeyF x y = -1 := by unfold byKeyF; rw [if_pos h1]
    rw [hF]
    have HF := Lib.hid hF
    clear hF
    simp only [It.val]
    go_enter Try.func22, Try.ntmps22
    go_wp2_with fail
    go_ret
    refine ⟨rfl, ?_⟩
    repeat (first | exact Keep.refl _ _ | refine Keep.drew ?_ | refine Keep.drewN ?_ _ | refine Keep.alloc ?_ _)
  · by_cases h2 : y.1 < x.1
    · have hF : byKeyF x y = 1 := by unfold byKeyF; rw [if_neg h1, if_pos h2]
      rw [hF]
      have HF := Lib.hid hF
      clear hF
      simp only [It.val]
      go_enter Try.func22, Try.ntmps22
      go_wp2_with fail
      go_ret
      refine ⟨rfl, ?_⟩
      repeat (first | exact Keep.refl _ _ | refine Keep.drew ?_ | refine Keep.drewN ?_ _ | refine Keep.alloc ?_ _)
    · have hF : byKeyF x y = 0 := by unfold byKeyF; rw [if_neg h1, if_neg h2]
      rw [hF]
      have HF := Lib.hid hF
      clear hF
      simp only [It.val]
      go_enter Try.func22, Try.ntmps22
      go_wp2_with fail
      go_ret
      refine ⟨rfl, ?_⟩
      repeat (first | exact Keep.refl _ _ | refine Keep.drew ?_ | refine Keep.drewN ?_ _ | refine Keep.alloc ?_ _)
end Go.Proofs.Ytmhdalalicomkaa
