/- (*mesh.Mesh).Add at a point that is refused. -/
import Derived.Test.YthookkmgmholcaaGreatDoorQB1
namespace Go.Proofs.YthookkmgmholcaaGreatDoor
open Go.RowKit Go.Maps Go.WideMaps

set_option maxRecDepth 100000 in
set_option maxHeartbeats 1000000 in
theorem add_bad {mb : Nat} (p : Pt) (h64 : pt64 p) (hp : ptOK p = false) (w : World) :
    Calls Tryz.prog 50 #[.pointer (some ⟨mb, 0, none⟩), V p] w fun r w' => r = .returned (.tuple #[.int .i64 0, .int .i64 10]) ∧ Below w.heap.size w w' := by
  have HM := Lib.hid (fun w1 => may_walk p h64 w1)
  rw [hp] at HM
  clear hp h64
  unfold V at *
  have wa : Below w.heap.size w (w.alloc (.cells #[.float .f64 p.1, .float .f64 p.2] 25)) := (Below.refl _ w).alloc (Nat.le_refl _) _
  go_enter Tryz.func50, Tryz.ntmps50
  go_wp2_with (go_at_call 89; with_reducible refine (HM.out _).mono ?_; rintro r w1 ⟨rfl, hb1⟩)
  go_ret2
  exact ⟨rfl, wa.trans (hb1.mono wa.size)⟩

end Go.Proofs.YthookkmgmholcaaGreatDoor
