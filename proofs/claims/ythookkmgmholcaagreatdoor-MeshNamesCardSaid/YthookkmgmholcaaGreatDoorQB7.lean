/- math.NaN. -/
import Derived.Test.YthookkmgmholcaaGreatDoorQB6
namespace Go.Proofs.YthookkmgmholcaaGreatDoor
open Go.RowKit Go.Maps Go.WideMaps

set_option maxRecDepth 100000 in
set_option maxHeartbeats 1000000 in
theorem nan_walk (w : World) : Calls Tryz.prog 57 #[] w fun r w' => r = .returned (.float .f64 9221120237041090561) ∧ w' = w := by
  go_enter Tryz.func57, Tryz.ntmps57
  go_wp2_with go_in
  go_ret
  exact ⟨rfl, rfl⟩
theorem nan_not : ptOK (9221120237041090561, 0) = false := by decide +kernel

end Go.Proofs.YthookkmgmholcaaGreatDoor
