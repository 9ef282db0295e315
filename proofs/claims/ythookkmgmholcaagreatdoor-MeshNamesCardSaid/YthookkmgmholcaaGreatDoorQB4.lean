/- Loose where nothing is marked; Point at a nil receiver. -/
import Derived.Test.YthookkmgmholcaaGreatDoorQB3
namespace Go.Proofs.YthookkmgmholcaaGreatDoor
open Go.RowKit Go.Maps Go.WideMaps

set_option maxRecDepth 100000 in
set_option maxHeartbeats 2000000 in
theorem loose_no {w0 w : World} {mb n : Nat} {M : MeshM} {F : Nat → Prop} (h : MB w0 w mb n M F) {a b : Int} (ha : i64ok a) (hb : i64ok b) (hx : M.fx (minI a b) (maxI a b) = none) :
    Calls Tryz.prog 53 #[.pointer (some ⟨mb, 0, none⟩), .int .i64 a, .int .i64 b] w fun r w' => r = .returned (.bool false) ∧ MB w0 w' mb n M F := by
  have HFX := Lib.hid (fixed_walk h.at_ ha hb)
  rw [hx] at HFX
  simp only [Option.getD_none, Option.isSome_none] at HFX
  have HM := Lib.hid h
  clear h hx ha hb
  go_enter Tryz.func53, Tryz.ntmps53
  go_wp2_with (go_at_call 26; refine HFX.out.mono ?_; rintro r w3 ⟨rfl, hb3⟩)
  go_ret
  exact ⟨rfl, HM.out.below hb3⟩

set_option maxRecDepth 100000 in
set_option maxHeartbeats 1000000 in
theorem nil_Point (i : Int) (w : World) : Calls Tryz.prog 59 #[.pointer none, .int .i64 i] w fun r w' => r = .returned (.tuple #[.agg #[.float .f64 0, .float .f64 0], .bool false]) ∧ Below w.heap.size w w' := by
  have HH := Lib.hid (nil_has i)
  go_enter Tryz.func59, Tryz.ntmps59
  go_wp2_with (go_at_call 61; refine (HH.out _).mono ?_; rintro r w1 ⟨rfl, rfl⟩)
  go_returns
  exact ⟨rfl, (Below.refl _ _).alloc (Nat.le_refl _) _⟩

end Go.Proofs.YthookkmgmholcaaGreatDoor
