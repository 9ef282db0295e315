/- Part of the proof. No conditions. -/
import Derived.Test.YtdoaniccefdkaaaGreatDoorZU
import Derived.Test.YtdoaniccefdkaaaGreatDoorZZ

set_option linter.all false
/- trivetref15.Own, Less. -/
namespace Go.Proofs.YtdoaniccefdkaaaGreatDoor
open Go.RowKit Tvf Go.Maps Go.WideMaps

abbrev tTri : TypeId := 45
def tv3 (t : Tri3) : Value := .agg #[.int .i64 t.1, .int .i64 t.2.1, .int .i64 t.2.2]
def cellI (w : World) (b i : Nat) : Int := match w.cell? ⟨b, i, none⟩ with | some (.int _ z) => z | _ => 0
def rotM (a b c : Int) : Nat := if a < b ∧ a < c then 0 else if b < c ∧ b < a then 1 else 2
theorem Box3.ints {w : World} {b : Nat} {x y z : Int} (h : Box3 tTri w b (.int .i64 x) (.int .i64 y) (.int .i64 z)) : cellI w b 0 = x ∧ cellI w b 1 = y ∧ cellI w b 2 = z := by
  obtain ⟨h0, h1, h2⟩ := h.c
  unfold cellI
  rw [h0, h1, h2]
  exact ⟨rfl, rfl, rfl⟩
theorem own3_rot (t : Tri3) (h : t.1 ≠ t.2.1 ∧ t.2.1 ≠ t.2.2 ∧ t.1 ≠ t.2.2) : own3 (t.2.1, t.2.2, t.1) = own3 t := by
  obtain ⟨a, b, c⟩ := t
  dsimp only at h
  unfold own3
  dsimp only
  (repeat' split) <;> first | rfl | (exfalso; omega)
theorem own3_lead_id {t : Tri3} (h : t.1 < t.2.1 ∧ t.1 < t.2.2) : own3 t = t := by unfold own3; rw [if_pos h]

end Go.Proofs.YtdoaniccefdkaaaGreatDoor
