/- mesh.sorted: the closures at triangles. No conditions. -/
import Derived.Test.YthookkmgmholcaaGreatDoorZ7
import Derived.Test.YthookkmgmholcaaGreatDoorZ8
import Derived.Shelf.SlicesG.Cmp
import Derived.Deep.RegionHeld3
import Derived.Handy
import Derived.Sort.Grow
import Derived.Deep.CutRange

/- slices.Compare at three numbers a side; the order of triangles in their own form. -/
namespace Go.Proofs.YthookkmgmholcaaGreatDoor
open Go.RowKit

/-- what slices.Compare answers at three numbers a side -/
def cmpT (x y : Tri3) : Int := if x.1 ≠ y.1 then Lib.compareInt x.1 y.1 else if x.2.1 ≠ y.2.1 then Lib.compareInt x.2.1 y.2.1 else Lib.compareInt x.2.2 y.2.2
theorem compareInt_ne {x y : Int} : Lib.compareInt x y ≠ 0 ↔ x ≠ y := by
  unfold Lib.compareInt
  by_cases h1 : x < y
  · simp [h1]; omega
  · by_cases h2 : x > y
    · simp [h1, h2]; omega
    · simp [h1, h2]; omega
theorem compareInt_self (x : Int) : Lib.compareInt x x = 0 := by unfold Lib.compareInt; simp

def compT (x : Tri3) (k : Nat) : Int := if k = 0 then x.1 else if k = 1 then x.2.1 else x.2.2

theorem cmpInt_walk (x y : Int) (w : World) : Calls Tryz.prog 132 #[.int .i64 x, .int .i64 y] w fun e w' => e = .returned (.int .i64 (Lib.compareInt x y)) ∧ w' = w :=
  AnyG.cmp_Compare_int (P := Tryz.prog) Tryz.cmpInt x y w

theorem cmpT_at {x y : Tri3} {k : Nat} (hk : k < 3) (he : ∀ j, j < k → compT x j = compT y j) (hn : compT x k ≠ compT y k) : cmpT x y = Lib.compareInt (compT x k) (compT y k) := by
  unfold cmpT
  have h0 := he 0
  have h1 := he 1
  have : k = 0 ∨ k = 1 ∨ k = 2 := by omega
  rcases this with rfl | rfl | rfl
  · simp [compT] at hn ⊢; simp [hn]
  · have := h0 (by omega); simp [compT] at this hn ⊢; simp [this, hn]
  · have a := h0 (by omega); have b := h1 (by omega); simp [compT] at a b hn ⊢; simp [a, b]
theorem cmpT_eq {x y : Tri3} (he : ∀ j, j < 3 → compT x j = compT y j) : cmpT x y = 0 := by
  have h0 := he 0 (by omega)
  have h1 := he 1 (by omega)
  have h2 := he 2 (by omega)
  simp [compT] at h0 h1 h2
  unfold cmpT
  rw [if_neg (by simpa using h0), if_neg (by simpa using h1), h2, compareInt_self]

set_option maxRecDepth 100000 in
set_option maxHeartbeats 1000000 in
theorem compare_walk (p q : Nat) (x y : Tri3) (w : World) (x0 : w.cell? ⟨p, 0, none⟩ = some (.int .i64 x.1)) (x1 : w.cell? ⟨p, 1, none⟩ = some (.int .i64 x.2.1)) (x2 : w.cell? ⟨p, 2, none⟩ = some (.int .i64 x.2.2))
    (y0 : w.cell? ⟨q, 0, none⟩ = some (.int .i64 y.1)) (y1 : w.cell? ⟨q, 1, none⟩ = some (.int .i64 y.2.1)) (y2 : w.cell? ⟨q, 2, none⟩ = some (.int .i64 y.2.2)) :
    Calls Tryz.prog 101 #[.slice (some ⟨p, 0, none⟩) 3 3, .slice (some ⟨q, 0, none⟩) 3 3] w fun e w' => e = .returned (.int .i64 (cmpT x y)) ∧ w' = w := by
  have hX : ∀ k, k < 3 → w.cell? ⟨p, k, none⟩ = some (.int .i64 (compT x k)) := fun k hk => by
    have : k = 0 ∨ k = 1 ∨ k = 2 := by omega
    rcases this with rfl | rfl | rfl <;> assumption
  have hY : ∀ k, k < 3 → w.cell? ⟨q, k, none⟩ = some (.int .i64 (compT y k)) := fun k hk => by
    have : k = 0 ∨ k = 1 ∨ k = 2 := by omega
    rcases this with rfl | rfl | rfl <;> assumption
  have HX := Lib.hid hX
  have HY := Lib.hid hY
  clear hX hY x0 x1 x2 y0 y1 y2
  go_enter Tryz.func101, Tryz.ntmps101
  go_wp2
  go_loopw [11] (fun i wr => ∃ k : Nat, k ≤ 3 ∧ i = .int .i64 k ∧ wr = w ∧ Hid (∀ j, j < k → compT x j = compT y j)) (fun i _ => 3 - (intOf i).toNat)
  case atStart => exact ⟨0, by omega, rfl, rfl, fun j hj => by omega⟩
  case round =>
    obtain ⟨k, hk, rfl, rfl, HE⟩ := hrel
    by_cases hlt : k < 3
    · have hx := HX.out k hlt
      have hy := HY.out k hlt
      have HC := Lib.hid (cmpInt_walk (compT x k) (compT y k))
      by_cases he : compT x k = compT y k
      · have hz : Lib.compareInt (compT x k) (compT y k) = 0 := by rw [he, compareInt_self]
        rw [hz] at HC
        have HN : Hid (∀ j, j < k + 1 → compT x j = compT y j) := fun j hj => by
          by_cases q : j = k
          · rw [q]; exact he
          · exact HE.out j (by omega)
        clear he hz
        go_wp2_with (go_at_call 132; refine (HC.out _).mono ?_; rintro r w1 ⟨rfl, rfl⟩)
        go_roundw
        case rel => exact ⟨k + 1, by omega, by rfl, (by first | trivial | rfl), HN⟩
        case measure => simp [intOf]; omega
      · have HA := Lib.hid (cmpT_at hlt HE.out he)
        have hne := compareInt_ne.2 he
        clear he
        rw [← HA.out] at HC hne
        go_wp2_with (go_at_call 132; refine (HC.out _).mono ?_; rintro r w1 ⟨rfl, rfl⟩)
        go_ret
        exact ⟨rfl, rfl⟩
    · have e : k = 3 := by omega
      subst e
      have HQ := Lib.hid (cmpT_eq HE.out)
      clear hlt hk HE
      go_wp2
      go_ret
      refine ⟨?_, rfl⟩
      rw [HQ.out]; rfl

end Go.Proofs.YthookkmgmholcaaGreatDoor

/- mesh.sorted at triangles: the closures. -/
namespace Go.Proofs.YthookkmgmholcaaGreatDoor
open Go.RowKit

def vT (x : Tri3) : Value := .agg #[.int .i64 x.1, .int .i64 x.2.1, .int .i64 x.2.2]

theorem triKey_walk (x : Tri3) (w : World) :
    Calls Tryz.prog 68 #[vT x] w fun e w' => e = .returned (vT x) ∧ w' = ((w.alloc (.cells #[.int .i64 x.1, .int .i64 x.2.1, .int .i64 x.2.2] 32)).alloc (.cells #[.int .i64 x.1, .int .i64 x.2.1, .int .i64 x.2.2] 31)) := by
  obtain ⟨a, b, c⟩ := x
  unfold vT
  go_enter Tryz.func68, Tryz.ntmps68
  go_wp2
  go_returns
  exact ⟨rfl, rfl⟩

end Go.Proofs.YthookkmgmholcaaGreatDoor

/- mesh.sorted at triangles: how two are held against each other. -/
namespace Go.Proofs.YthookkmgmholcaaGreatDoor
open Go.RowKit

/-- what the closure of mesh.sorted reads -/
def CmpS (w : World) (kb : Nat) (k : Value) (b c : Nat) (x y : Tri3) : Prop := w.cell? ⟨kb, 0, none⟩ = some k ∧ w.cell? ⟨b, 0, none⟩ = some (.int .i64 x.1) ∧ w.cell? ⟨b, 1, none⟩ = some (.int .i64 x.2.1) ∧ w.cell? ⟨b, 2, none⟩ = some (.int .i64 x.2.2)
      ∧ w.cell? ⟨c, 0, none⟩ = some (.int .i64 y.1) ∧ w.cell? ⟨c, 1, none⟩ = some (.int .i64 y.2.1) ∧ w.cell? ⟨c, 2, none⟩ = some (.int .i64 y.2.2)
theorem CmpS.drew {w : World} {kb : Nat} {k : Value} {b c : Nat} {x y : Tri3} (h : CmpS w kb k b c x y) : CmpS w.drew kb k b c x y := h
theorem CmpS.alloc {w : World} {kb : Nat} {k : Value} {b c : Nat} {x y : Tri3} (h : CmpS w kb k b c x y) {o : Obj} : CmpS (w.alloc o) kb k b c x y :=
  ⟨Lib.cell?_alloc_some _ h.1, Lib.cell?_alloc_some _ h.2.1, Lib.cell?_alloc_some _ h.2.2.1, Lib.cell?_alloc_some _ h.2.2.2.1, Lib.cell?_alloc_some _ h.2.2.2.2.1, Lib.cell?_alloc_some _ h.2.2.2.2.2.1, Lib.cell?_alloc_some _ h.2.2.2.2.2.2⟩

theorem cellDrew {w : World} {a : Addr} {x : Option Value} (h : w.cell? a = x) : w.drew.cell? a = x := h

/-- what slices.Compare reads -/
def CmpC (w : World) (p q : Nat) (x y : Tri3) : Prop := w.cell? ⟨p, 0, none⟩ = some (.int .i64 x.1) ∧ w.cell? ⟨p, 1, none⟩ = some (.int .i64 x.2.1) ∧ w.cell? ⟨p, 2, none⟩ = some (.int .i64 x.2.2)
      ∧ w.cell? ⟨q, 0, none⟩ = some (.int .i64 y.1) ∧ w.cell? ⟨q, 1, none⟩ = some (.int .i64 y.2.1) ∧ w.cell? ⟨q, 2, none⟩ = some (.int .i64 y.2.2)

/-- w' is w some draws on, with blocks laid behind -/
def Grew (w w' : World) : Prop := ∃ q os, w' = Sort.grow (w.drewN q) os
theorem Grew.refl (w : World) : Grew w w := ⟨0, #[], by rw [Sort.grow_empty]; rfl⟩
theorem Grew.alloc {a w : World} {o : Obj} (h : Grew a w) : Grew a (w.alloc o) := by
  obtain ⟨q, os, rfl⟩ := h
  exact ⟨q, os ++ #[o], by rw [Sort.alloc_eq_grow, Sort.grow_grow]⟩
theorem Grew.drewN {a w : World} {n : Nat} (h : Grew a w) : Grew a (w.drewN n) := by
  obtain ⟨q, os, rfl⟩ := h
  exact ⟨q + n, os, by rw [← World.drewN_drewN]; rfl⟩
theorem Grew.drew {a w : World} (h : Grew a w) : Grew a w.drew := h.drewN (n := 1)

set_option maxRecDepth 100000 in
set_option maxHeartbeats 8000000 in
theorem triCmp_walk (kb : Nat) (x y : Tri3) (w : World) (hk : w.cell? ⟨kb, 0, none⟩ = some (.func (.func 68) #[] #[])) :
    Calls Tryz.prog 100 #[vT x, vT y, .pointer (some ⟨kb, 0, none⟩)] w fun e w' => e = .returned (.int .i64 (cmpT x y)) ∧ Grew w w' := by
  have HX := Lib.hid (triKey_walk x)
  have HY := Lib.hid (triKey_walk y)
  have HC := Lib.hid (fun p q => compare_walk p q x y)
  have hkl := World.block_lt_of_cell? _ _ hk
  obtain ⟨x0, x1, x2⟩ := x
  obtain ⟨y0, y1, y2⟩ := y
  unfold vT at *
  dsimp only at HX HY HC
  generalize cmpT (x0, x1, x2) (y0, y1, y2) = z at *
  have hB : CmpS ((w.alloc (.cells #[.int .i64 x0, .int .i64 x1, .int .i64 x2] 32)).alloc (.cells #[.int .i64 y0, .int .i64 y1, .int .i64 y2] 32)) kb (.func (.func 68) #[] #[]) w.heap.size (w.heap.size + 1) (x0, x1, x2) (y0, y1, y2) := by
    refine ⟨Lib.cell?_alloc_some _ (Lib.cell?_alloc_some _ hk), ?_, ?_, ?_, ?_, ?_, ?_⟩ <;> simp
  go_enter Tryz.func100, Tryz.ntmps100
  have HB := Lib.hid hB
  clear hB hk
  go_upto_region 1 with fail
  go_cut [6, 7] from 8 to 13 (fun s6 s7 wx => ∃ p q : Nat, s6 = .pointer (some ⟨p, 0, none⟩) ∧ s7 = .pointer (some ⟨q, 0, none⟩) ∧ Hid (CmpC wx p q (x0, x1, x2) (y0, y1, y2)) ∧ Hid (Grew w wx))
  case first =>
    go_region_held3 (fun w' => w'.cell? ⟨kb, 0, none⟩ = some (.func (.func 68) #[] #[]) ∧ w'.cell? ⟨w.heap.size, 0, none⟩ = some (.int .i64 x0) ∧ w'.cell? ⟨w.heap.size, 1, none⟩ = some (.int .i64 x1) ∧ w'.cell? ⟨w.heap.size, 2, none⟩ = some (.int .i64 x2)
        ∧ w'.cell? ⟨w.heap.size + 1, 0, none⟩ = some (.int .i64 y0) ∧ w'.cell? ⟨w.heap.size + 1, 1, none⟩ = some (.int .i64 y1) ∧ w'.cell? ⟨w.heap.size + 1, 2, none⟩ = some (.int .i64 y2))
      (first | (change CmpS _ kb (.func (.func 68) #[] #[]) w.heap.size (w.heap.size + 1) (x0, x1, x2) (y0, y1, y2); repeat (first | with_reducible exact HB.out | with_reducible apply CmpS.drew | with_reducible apply CmpS.alloc)))
      (first
        | (go_at_call 68; (first | (with_reducible refine (HX.out _).mono ?_) | (with_reducible refine (HY.out _).mono ?_)); rintro r w1 ⟨rfl, rfl⟩))
    all_goals
      go_wp2_with fail
      go_meet
      refine ⟨_, _, rfl, rfl, ?_, ?_⟩
      · refine ⟨?_, ?_, ?_, ?_, ?_, ?_⟩ <;> (repeat (first | (refine (World.cell?_alloc_at _ _ _ _ ?_).trans ?_; (focus (simp; done)); rfl) | with_reducible apply Lib.cell?_alloc_some | with_reducible apply cellDrew))
      · unfold Hid
        repeat (first | with_reducible exact Grew.refl _ | with_reducible apply Grew.drewN | with_reducible apply Grew.drew | with_reducible apply Grew.alloc)
  case rest =>
    obtain ⟨p, q, rfl, rfl, HCC, HG⟩ := hcut
    clear HX HY HB
    obtain ⟨p0, p1, p2, q0, q1, q2⟩ := HCC.out
    have HCC2 := Lib.hid (HC.out p q wc.drew p0 p1 p2 q0 q1 q2)
    clear p0 p1 p2 q0 q1 q2
    go_wp2
    go_region_held3 (fun w' => w' = wc.drew) (first | rfl | assumption) (first | (go_at_call 101; refine HCC2.out.mono ?_; rintro r w1 ⟨rfl, rfl⟩))
    go_wp2
    go_ret
    exact ⟨rfl, HG.out.drew⟩

end Go.Proofs.YthookkmgmholcaaGreatDoor
