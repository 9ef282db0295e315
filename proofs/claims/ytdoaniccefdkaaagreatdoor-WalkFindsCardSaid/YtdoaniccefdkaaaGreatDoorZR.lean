/- Part of the proof. No conditions. -/
import Derived.Test.YtdoaniccefdkaaaGreatDoorZC

set_option linter.all false
/- walk.at. -/
namespace Go.Proofs.YtdoaniccefdkaaaGreatDoor
open Go.RowKit Tvf Go.Maps Go.WideMaps

/-- what walk.at answers -/
def atV (M : MeshM) (p : Pt) (t : Tri3) : Value := match outM M p t with
  | none => .tuple #[plcV (placeM M p t), .int .i64 0, .bool true]
  | some i => .tuple #[plcV plc0, .int .i64 i, .bool false]

/-- the last place of a nought, among so many -/
def eK (s : Nat → Int) : Nat → Int
  | 0 => -1
  | n + 1 => if s n = 0 then (n : Int) else eK s n
def sT (M : MeshM) (p : Pt) (t : Tri3) (j : Nat) : Int := sdM M p (corT t (j : Nat)) (corT t ((j : Nat) + 1 : Int))
theorem sT_0 (M : MeshM) (p : Pt) (t : Tri3) : sT M p t 0 = sdM M p t.1 t.2.1 := rfl
theorem sT_1 (M : MeshM) (p : Pt) (t : Tri3) : sT M p t 1 = sdM M p t.2.1 t.2.2 := rfl
theorem sT_2 (M : MeshM) (p : Pt) (t : Tri3) : sT M p t 2 = sdM M p t.2.2 t.1 := rfl
theorem edgeM_eK (M : MeshM) (p : Pt) (t : Tri3) : edgeM M p t = eK (sT M p t) 3 := by
  unfold edgeM
  simp only [eK, sT_0, sT_1, sT_2]
  rfl
theorem sgnI_3 (z : Int) : sgnI z = -1 ∨ sgnI z = 0 ∨ sgnI z = 1 := by
  unfold sgnI
  split
  · simp
  · split <;> simp
theorem signI_3 (a b c : Pt) : signI a b c = -1 ∨ signI a b c = 0 ∨ signI a b c = 1 := by
  unfold signI
  split
  · exact sgnI_3 _
  · simp
theorem sT_3 (M : MeshM) (p : Pt) (t : Tri3) (j : Nat) : sT M p t j = -1 ∨ sT M p t j = 0 ∨ sT M p t j = 1 := signI_3 _ _ _
theorem outM_at {M : MeshM} {p : Pt} {t : Tri3} {k : Nat} (hk : k < 3) (hl : ∀ j, j < k → sT M p t j ≠ -1) (h : sT M p t k = -1) : outM M p t = some (k : Int) := by
  unfold outM
  rw [← sT_0, ← sT_1, ← sT_2]
  rcases (show k = 0 ∨ k = 1 ∨ k = 2 by omega) with rfl | rfl | rfl
  · rw [if_pos h]; rfl
  · rw [if_neg (hl 0 (by omega)), if_pos h]; rfl
  · rw [if_neg (hl 0 (by omega)), if_neg (hl 1 (by omega)), if_pos h]; rfl
theorem outM_no {M : MeshM} {p : Pt} {t : Tri3} (hl : ∀ j, j < 3 → sT M p t j ≠ -1) : outM M p t = none := by
  unfold outM
  rw [← sT_0, ← sT_1, ← sT_2, if_neg (hl 0 (by omega)), if_neg (hl 1 (by omega)), if_neg (hl 2 (by omega))]
theorem atV_at {M : MeshM} {p : Pt} {t : Tri3} {k : Nat} (hk : k < 3) (hl : ∀ j, j < k → sT M p t j ≠ -1) (h : sT M p t k = -1) : atV M p t = .tuple #[plcV plc0, .int .i64 k, .bool false] := by
  unfold atV; rw [outM_at hk hl h]
theorem atV_no {M : MeshM} {p : Pt} {t : Tri3} (hl : ∀ j, j < 3 → sT M p t j ≠ -1) : atV M p t = .tuple #[plcV (placeM M p t), .int .i64 0, .bool true] := by
  unfold atV; rw [outM_no hl]
theorem eK_range (s : Nat → Int) : eK s 3 = -1 ∨ eK s 3 = 0 ∨ eK s 3 = 1 ∨ eK s 3 = 2 := by
  simp only [eK]
  split
  · simp
  · split
    · simp
    · split <;> simp

theorem placeM_whole {M : MeshM} {p : Pt} {t : Tri3} (h : eK (sT M p t) 3 = -1) : placeM M p t = ⟨1, t.1, t.2.1, t.2.2⟩ := by
  unfold placeM; rw [edgeM_eK, h, if_pos (by decide)]
theorem onM_at {M : MeshM} {p : Pt} {t : Tri3} {k : Nat} (hk : k < 3) (hl : ∀ j : Nat, j < k → cmpI (ptAt M (corT t j)) p ≠ 0) (hc : cmpI (ptAt M (corT t k)) p = 0) : onM M p t = some (corT t k) := by
  have c0 : corT t ((0 : Nat) : Int) = t.1 := rfl
  have c1 : corT t ((1 : Nat) : Int) = t.2.1 := rfl
  have c2 : corT t ((2 : Nat) : Int) = t.2.2 := rfl
  unfold onM
  rw [← c0, ← c1, ← c2]
  rcases (show k = 0 ∨ k = 1 ∨ k = 2 by omega) with rfl | rfl | rfl
  · rw [if_pos hc]
  · rw [if_neg (hl 0 (by omega)), if_pos hc]
  · rw [if_neg (hl 0 (by omega)), if_neg (hl 1 (by omega)), if_pos hc]
theorem onM_no {M : MeshM} {p : Pt} {t : Tri3} (hl : ∀ j : Nat, j < 3 → cmpI (ptAt M (corT t j)) p ≠ 0) : onM M p t = none := by
  have c0 : corT t ((0 : Nat) : Int) = t.1 := rfl
  have c1 : corT t ((1 : Nat) : Int) = t.2.1 := rfl
  have c2 : corT t ((2 : Nat) : Int) = t.2.2 := rfl
  unfold onM
  rw [← c0, ← c1, ← c2, if_neg (hl 0 (by omega)), if_neg (hl 1 (by omega)), if_neg (hl 2 (by omega))]
theorem placeM_on {M : MeshM} {p : Pt} {t : Tri3} {k : Nat} (h : ¬eK (sT M p t) 3 < 0) (hk : k < 3) (hl : ∀ j : Nat, j < k → cmpI (ptAt M (corT t j)) p ≠ 0) (hc : cmpI (ptAt M (corT t k)) p = 0) : placeM M p t = ⟨3, corT t k, 0, 0⟩ := by
  unfold placeM; rw [edgeM_eK, if_neg h, onM_at hk hl hc]
theorem placeM_edge {M : MeshM} {p : Pt} {t : Tri3} (h : ¬eK (sT M p t) 3 < 0) (hl : ∀ j : Nat, j < 3 → cmpI (ptAt M (corT t j)) p ≠ 0) :
    placeM M p t = ⟨2, minI (corT t (eK (sT M p t) 3)) (corT t (eK (sT M p t) 3 + 1)), maxI (corT t (eK (sT M p t) 3)) (corT t (eK (sT M p t) 3 + 1)), 0⟩ := by
  unfold placeM; rw [edgeM_eK, if_neg h, onM_no hl]

/-- behind the stores into a place's box -/
theorem BoxN.put4 {T : TypeId} {W : World} {b : Nat} {x y z u : Value} (h : BoxN T W b #[x, y, z, u]) (x' y' z' u' : Value) :
    BoxN T ((((W.setCell ⟨b, 0, none⟩ x').setCell ⟨b, 1, none⟩ y').setCell ⟨b, 2, none⟩ z').setCell ⟨b, 3, none⟩ u') b #[x', y', z', u'] :=
  (((h.set 0 x' (by simp)).set 1 y' (by simp)).set 2 z' (by simp)).set 3 u' (by simp)
theorem BoxN.c4 {T : TypeId} {W : World} {b : Nat} {x y z u : Value} (h : BoxN T W b #[x, y, z, u]) : W.cell? ⟨b, 0, none⟩ = some x ∧ W.cell? ⟨b, 1, none⟩ = some y ∧ W.cell? ⟨b, 2, none⟩ = some z ∧ W.cell? ⟨b, 3, none⟩ = some u :=
  ⟨h.c 0, h.c 1, h.c 2, h.c 3⟩
theorem BoxN.c3 {T : TypeId} {W : World} {b : Nat} {x y z : Value} (h : BoxN T W b #[x, y, z]) : W.cell? ⟨b, 0, none⟩ = some x ∧ W.cell? ⟨b, 1, none⟩ = some y ∧ W.cell? ⟨b, 2, none⟩ = some z :=
  ⟨h.c 0, h.c 1, h.c 2⟩
theorem BoxN.c2 {T : TypeId} {W : World} {b : Nat} {x y : Value} (h : BoxN T W b #[x, y]) : W.cell? ⟨b, 0, none⟩ = some x ∧ W.cell? ⟨b, 1, none⟩ = some y :=
  ⟨h.c 0, h.c 1⟩
theorem put4_below {B : Nat} {w0 w : World} {r : Nat} (h : Below B w0 w) (hr : B ≤ r) (x y z u : Value) : Below B w0 ((((w.setCell ⟨r, 0, none⟩ x).setCell ⟨r, 1, none⟩ y).setCell ⟨r, 2, none⟩ z).setCell ⟨r, 3, none⟩ u) :=
  (((h.setCell (p := ⟨r, 0, none⟩) hr x).setCell (p := ⟨r, 1, none⟩) hr y).setCell (p := ⟨r, 2, none⟩) hr z).setCell (p := ⟨r, 3, none⟩) hr u

theorem idxT_0 (x y z : Value) (w : World) : (Instr.index 45 (.agg #[x, y, z]) (.int .i64 0)).run Tryz.prog w = .ok x w := by kernel_rfl
theorem idxT_1 (x y z : Value) (w : World) : (Instr.index 45 (.agg #[x, y, z]) (.int .i64 1)).run Tryz.prog w = .ok y w := by kernel_rfl
theorem idxT_2 (x y z : Value) (w : World) : (Instr.index 45 (.agg #[x, y, z]) (.int .i64 2)).run Tryz.prog w = .ok z w := by kernel_rfl

theorem quiet_box {T : TypeId} {W : World} {b : Nat} {xs : Array Value} (h : BoxN T W b xs) (n : Nat) : BoxN T (W.drewN n) b xs := by
  induction n with
  | zero => exact h
  | succ n ih => exact ih
theorem below_drewNs {B : Nat} {a w : World} (h : Below B a w) (n : Nat) : Below B a (w.drewN n) := ⟨h.os, h.tape, h.output, h.size, h.block⟩

/-- the three boxes of walk.at -/
theorem at_boxes (w : World) (xs ys zs : Array Value) (T1 T2 T3 : TypeId) :
    BoxN T1 (((w.alloc (.cells xs T1)).alloc (.cells ys T2)).alloc (.cells zs T3)) w.heap.size xs ∧ BoxN T2 (((w.alloc (.cells xs T1)).alloc (.cells ys T2)).alloc (.cells zs T3)) (w.heap.size + 1) ys ∧ BoxN T3 (((w.alloc (.cells xs T1)).alloc (.cells ys T2)).alloc (.cells zs T3)) (w.heap.size + 1 + 1) zs ∧ Below w.heap.size w (((w.alloc (.cells xs T1)).alloc (.cells ys T2)).alloc (.cells zs T3)) := by
  have e1 : (w.alloc (.cells xs T1)).heap.size = w.heap.size + 1 := by simp
  have e2 : ((w.alloc (.cells xs T1)).alloc (.cells ys T2)).heap.size = w.heap.size + 1 + 1 := by simp
  refine ⟨((BoxN.new w xs T1).al _).al _, ?_, ?_, (((Below.refl _ w).alloc (Nat.le_refl _) _).alloc (by simp) _).alloc (by simp; omega) _⟩
  · have := ((BoxN.new (w.alloc (.cells xs T1)) ys T2).al (.cells zs T3))
    rwa [e1] at this
  · have := BoxN.new ((w.alloc (.cells xs T1)).alloc (.cells ys T2)) zs T3
    rwa [e2] at this

end Go.Proofs.YtdoaniccefdkaaaGreatDoor
