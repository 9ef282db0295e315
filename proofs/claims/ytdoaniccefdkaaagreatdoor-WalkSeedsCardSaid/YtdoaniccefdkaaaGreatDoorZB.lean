/- Part of the proof. No conditions. -/
import Derived.Test.YtdoaniccefdkaaaGreatDoorZ7
import Derived.Test.YtdoaniccefdkaaaGreatDoorZ9

set_option linter.all false
/- (*mesh.Mesh).Point; flip.shared, left. -/
namespace Go.Proofs.YtdoaniccefdkaaaGreatDoor
open Go.RowKit Tvf Go.Maps Go.WideMaps

theorem cell_keep {w w' : World} {p : Addr} {v : Value} (h : w.cell? p = some v) (hb : Below w.heap.size w w') : w'.cell? p = some v :=
  (hb.cell (p := p) (World.block_lt_of_cell? _ _ h)).trans h

/-- the point of a number -/
def ptAt (M : MeshM) (i : Int) : Pt := if hasM M i then M.P.getD i.toNat (0, 0) else (0, 0)

theorem ptAt_no {M : MeshM} {i : Int} (h : hasM M i = false) : ptAt M i = (0, 0) := by unfold ptAt; rw [h]; rfl
theorem ptAt_yes {M : MeshM} {x : Nat} (h : x < M.P.length) : ptAt M x = M.P.getD x (0, 0) := by unfold ptAt; rw [hasM_nat h]; rfl

set_option maxRecDepth 100000 in
set_option maxHeartbeats 1000000 in
theorem point_walk {w : World} {mb n : Nat} {M : MeshM} {F : Nat → Prop} (h : MeshAt w mb n M F) (i : Int) :
    Calls Tryz.prog 48 #[.pointer (some ⟨mb, 0, none⟩), .int .i64 i] w fun r w' => r = .returned (.tuple #[.agg #[.float .f64 (ptAt M i).1, .float .f64 (ptAt M i).2], .bool (hasM M i)]) ∧ Below w.heap.size w w' := by
  have HH := Lib.hid (fun W (hb : Below w.heap.size w W) => has_walk (h.below hb) i)
  have hb0 : Below w.heap.size w (w.alloc (.cells #[.float .f64 0, .float .f64 0] 52)) := (Below.refl _ _).alloc (Nat.le_refl _) _
  have HB0 := Lib.hid hb0
  cases hh : hasM M i
  · rw [hh] at HH
    rw [ptAt_no hh]
    clear h hb0
    go_enter Tryz.func48, Tryz.ntmps48
    go_wp2_with (go_at_call 89; refine (HH.out _ HB0.out).mono ?_; rintro r w1 ⟨rfl, rfl⟩)
    go_returns
    exact ⟨rfl, HB0.out⟩
  · have hh2 := hh
    unfold hasM at hh2
    simp only [Bool.and_eq_true, decide_eq_true_eq] at hh2
    obtain ⟨x, rfl⟩ : ∃ x : Nat, i = x := ⟨i.toNat, by omega⟩
    have hx : x < M.P.length := by omega
    rw [hh] at HH
    rw [ptAt_yes hx]
    have h' := h.below hb0
    obtain ⟨ba, bs, bf, pv, sv, h⟩ := h'
    obtain ⟨ad, cap, rfl, hpc⟩ := h.ptcells
    obtain ⟨bp, off, rfl, _, hpc⟩ := hpc (by omega)
    have c0 := h.c0
    obtain ⟨ax, ay⟩ := hpc x hx
    have hx1 : (x : Int) < (M.P.length : Int) := by omega
    clear h hpc hh hh2 hb0
    generalize M.P.getD x (0, 0) = pa at *
    generalize M.P.length = L at *
    go_enter Tryz.func48, Tryz.ntmps48
    go_wp2_with (go_at_call 89; refine (HH.out _ HB0.out).mono ?_; rintro r w1 ⟨rfl, rfl⟩)
    go_returns
    exact ⟨rfl, (Below.refl _ _).alloc (Nat.le_refl _) _⟩

end Go.Proofs.YtdoaniccefdkaaaGreatDoor

/- flip.shared, left. -/
namespace Go.Proofs.YtdoaniccefdkaaaGreatDoor
open Go.RowKit Tvf Go.Maps Go.WideMaps

theorem sgnI_gt {a b : Int} (h : b < a) : sgnI (a - b) = 1 := by unfold sgnI; rw [if_neg (by omega), if_pos (by omega)]
theorem sgnI_lt {a b : Int} (h : a < b) : sgnI (a - b) = -1 := by unfold sgnI; rw [if_pos (by omega)]
theorem sgnI_eq {a b : Int} (h : a = b) : sgnI (a - b) = 0 := by unfold sgnI; rw [if_neg (by omega), if_neg (by omega)]

/-- is an edge shared? -/
def shB (M : MeshM) (a b : Int) : Bool := (M.ap a b).isSome && (M.ap b a).isSome

set_option maxRecDepth 100000 in
set_option maxHeartbeats 1000000 in
theorem shared_walk {w : World} {mb n : Nat} {M : MeshM} {F : Nat → Prop} (h : MeshAt w mb n M F) {a b : Int} (ha : i64ok a) (hb : i64ok b) :
    Calls Tryz.prog 69 #[.pointer (some ⟨mb, 0, none⟩), .int .i64 a, .int .i64 b] w fun r w' => r = .returned (.tuple #[.agg #[.int .i64 a, .int .i64 b, .int .i64 ((M.ap a b).getD 0), .int .i64 ((M.ap b a).getD 0)], .bool (shB M a b)]) ∧ Below w.heap.size w w' := by
  have hb0 : Below w.heap.size w (w.alloc (.cells #[.int .i64 0, .int .i64 0, .int .i64 0, .int .i64 0] 121)) := (Below.refl _ _).alloc (Nat.le_refl _) _
  have HX := Lib.hid (apex_walk (h.below hb0) ha hb)
  have HY := Lib.hid (apex_walk (h.below hb0) hb ha)
  have HB0 := Lib.hid hb0
  unfold shB
  generalize (M.ap a b).getD 0 = c at *
  generalize (M.ap b a).getD 0 = d at *
  generalize (M.ap a b).isSome = p at *
  generalize (M.ap b a).isSome = q at *
  clear h ha hb hb0
  cases p <;> cases q
  all_goals
    go_enter Tryz.func69, Tryz.ntmps69
    go_wp2_with (first
      | (go_at_call 19; with_reducible refine HX.out.mono ?_; rintro r w1 ⟨rfl, rfl⟩)
      | (go_at_call 19; with_reducible refine HY.out.mono ?_; rintro r w2 ⟨rfl, rfl⟩))
    go_returns
    exact ⟨rfl, (Below.refl _ _).alloc (Nat.le_refl _) _⟩

theorem cell_al {w : World} {p : Addr} {v : Value} (h : w.cell? p = some v) (o : Obj) : (w.alloc o).cell? p = some v := cell_keep h ((Below.refl _ _).alloc (Nat.le_refl _) o)
theorem new2 (w : World) (x y : Value) (T : TypeId) : (w.alloc (.cells #[x, y] T)).cell? ⟨w.heap.size, 0, none⟩ = some x ∧ (w.alloc (.cells #[x, y] T)).cell? ⟨w.heap.size, 1, none⟩ = some y :=
  ⟨by rw [World.cell?_alloc_at _ _ _ _ rfl]; rfl, by rw [World.cell?_alloc_at _ _ _ _ rfl]; rfl⟩

theorem new3 (w : World) (x y z : Value) (T : TypeId) : (w.alloc (.cells #[x, y, z] T)).cell? ⟨w.heap.size, 0, none⟩ = some x ∧ (w.alloc (.cells #[x, y, z] T)).cell? ⟨w.heap.size, 1, none⟩ = some y ∧ (w.alloc (.cells #[x, y, z] T)).cell? ⟨w.heap.size, 2, none⟩ = some z :=
  ⟨by rw [World.cell?_alloc_at _ _ _ _ rfl]; rfl, by rw [World.cell?_alloc_at _ _ _ _ rfl]; rfl, by rw [World.cell?_alloc_at _ _ _ _ rfl]; rfl⟩

/-- three cells of a block -/
def C3 (W : World) (b : Nat) (x y z : Value) : Prop := W.cell? ⟨b, 0, none⟩ = some x ∧ W.cell? ⟨b, 1, none⟩ = some y ∧ W.cell? ⟨b, 2, none⟩ = some z
theorem C3.below {W W' : World} {b : Nat} {x y z : Value} (h : C3 W b x y z) (hb : Below W.heap.size W W') : C3 W' b x y z := ⟨cell_keep h.1 hb, cell_keep h.2.1 hb, cell_keep h.2.2 hb⟩
theorem C3.low {W W' : World} {b B : Nat} {x y z : Value} (h : C3 W b x y z) (hb : Below B W W') (hl : b < B) : C3 W' b x y z :=
  ⟨(hb.cell (p := ⟨b, 0, none⟩) hl).trans h.1, (hb.cell (p := ⟨b, 1, none⟩) hl).trans h.2.1, (hb.cell (p := ⟨b, 2, none⟩) hl).trans h.2.2⟩
theorem C3.new (w : World) (x y z : Value) (T : TypeId) : C3 (w.alloc (.cells #[x, y, z] T)) w.heap.size x y z := new3 w x y z T
theorem C3.al {W : World} {b : Nat} {x y z : Value} (h : C3 W b x y z) (o : Obj) : C3 (W.alloc o) b x y z := h.below ((Below.refl _ _).alloc (Nat.le_refl _) o)
/-- two boxes, one behind the other -/
theorem C3.two (w : World) (x y z x' y' z' : Value) (T T' : TypeId) : C3 ((w.alloc (.cells #[x, y, z] T)).alloc (.cells #[x', y', z'] T')) w.heap.size x y z ∧ C3 ((w.alloc (.cells #[x, y, z] T)).alloc (.cells #[x', y', z'] T')) (w.heap.size + 1) x' y' z' := by
  refine ⟨(C3.new w x y z T).al _, ?_⟩
  have := C3.new (w.alloc (.cells #[x, y, z] T)) x' y' z' T'
  rwa [show (w.alloc (.cells #[x, y, z] T)).heap.size = w.heap.size + 1 from by simp] at this


/-- does it turn left? -/
def leftM (M : MeshM) (a b c : Int) : Bool := decide (0 < signI (ptAt M a) (ptAt M b) (ptAt M c))

theorem ptAt_64 {M : MeshM} (h : ∀ p, p ∈ M.P → pt64 p) (i : Int) : pt64 (ptAt M i) := by
  unfold ptAt
  split
  · rename_i hh
    unfold hasM at hh
    simp only [Bool.and_eq_true, decide_eq_true_eq] at hh
    have hx : i.toNat < M.P.length := by omega
    rw [List.getD_eq_getElem?_getD, List.getElem?_eq_getElem hx]
    exact h _ (List.getElem_mem hx)
  · unfold pt64; decide

set_option maxRecDepth 100000 in
set_option maxHeartbeats 1000000 in
theorem left_walk {w : World} {mb n : Nat} {M : MeshM} {F : Nat → Prop} (h : MeshAt w mb n M F) (h64 : ∀ p, p ∈ M.P → pt64 p) (a b c : Int) :
    Calls Tryz.prog 139 #[.pointer (some ⟨mb, 0, none⟩), .int .i64 a, .int .i64 b, .int .i64 c] w fun r w' => r = .returned (.bool (leftM M a b c)) ∧ Below w.heap.size w w' := by
  have HA := Lib.hid (fun W (hb : Below w.heap.size w W) => point_walk (h.below hb) a)
  have HB := Lib.hid (fun W (hb : Below w.heap.size w W) => point_walk (h.below hb) b)
  have HC := Lib.hid (fun W (hb : Below w.heap.size w W) => point_walk (h.below hb) c)
  have HS := Lib.hid (fun W => orient_sign (ptAt M a) (ptAt M b) (ptAt M c) (by
    intro p hp
    simp only [List.mem_cons, List.not_mem_nil, or_false] at hp
    rcases hp with rfl | rfl | rfl
    · exact ptAt_64 h64 a
    · exact ptAt_64 h64 b
    · exact ptAt_64 h64 c) W)
  unfold leftM
  clear h h64
  unfold V at HS
  generalize signI (ptAt M a) (ptAt M b) (ptAt M c) = s at *
  generalize ptAt M a = pa at *
  generalize ptAt M b = pb at *
  generalize ptAt M c = pc at *
  generalize hasM M a = ka at *
  generalize hasM M b = kb at *
  generalize hasM M c = kc at *
  have b0 : Below w.heap.size w w := Below.refl _ _
  by_cases hs : 0 < s
  all_goals
    go_enter Tryz.func139, Tryz.ntmps139
    go_wp2_with (first
      | (go_at_call 48; with_reducible refine (HA.out w b0).mono ?_; rintro r w1 ⟨rfl, b1⟩)
      | (go_at_call 48; with_reducible refine (HB.out _ (b1.alloc b1.size _)).mono ?_; rintro r w2 ⟨rfl, hb2⟩; have b2 := (b1.alloc b1.size (.cells #[.float .f64 pa.1, .float .f64 pa.2] 52)).trans (hb2.mono (Nat.le_trans b1.size (by simp))); have k1 := cell_keep (new2 w1 (.float .f64 pa.1) (.float .f64 pa.2) 52).1 hb2; have k2 := cell_keep (new2 w1 (.float .f64 pa.1) (.float .f64 pa.2) 52).2 hb2)
      | (go_at_call 48; with_reducible refine (HC.out _ (b2.alloc b2.size _)).mono ?_; rintro r w3 ⟨rfl, hb3⟩; have b3 := (b2.alloc b2.size (.cells #[.float .f64 pb.1, .float .f64 pb.2] 52)).trans (hb3.mono (Nat.le_trans b2.size (by simp))); have k3 := cell_keep (new2 w2 (.float .f64 pb.1) (.float .f64 pb.2) 52).1 hb3; have k4 := cell_keep (new2 w2 (.float .f64 pb.1) (.float .f64 pb.2) 52).2 hb3; have k5 := cell_keep (cell_keep k1 ((Below.refl w2.heap.size w2).alloc (Nat.le_refl _) (.cells #[.float .f64 pb.1, .float .f64 pb.2] 52))) hb3; have k6 := cell_keep (cell_keep k2 ((Below.refl w2.heap.size w2).alloc (Nat.le_refl _) (.cells #[.float .f64 pb.1, .float .f64 pb.2] 52))) hb3; have j3 := cell_al k3; have j4 := cell_al k4; have j5 := cell_al k5; have j6 := cell_al k6)
      | (go_at_call 90; with_reducible refine (HS.out _).mono ?_; rintro r w4 ⟨rfl, hb4⟩))
    go_ret
    refine ⟨by simp [hs], ?_⟩
    exact (b3.alloc b3.size _).trans (hb4.mono (Nat.le_trans b3.size (by simp)))

end Go.Proofs.YtdoaniccefdkaaaGreatDoor
