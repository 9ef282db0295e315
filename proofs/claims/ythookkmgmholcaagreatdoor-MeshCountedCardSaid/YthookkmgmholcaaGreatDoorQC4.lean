/- trivetref15.Less; the balance of border edges, plainly. -/
import Derived.Test.YthookkmgmholcaaGreatDoorZD
namespace Go.Proofs.YthookkmgmholcaaGreatDoor
open Go.RowKit Go.Maps Go.WideMaps

theorem compT_cells {w : World} {b : Nat} {x : Tri3} (h0 : w.cell? ⟨b, 0, none⟩ = some (.int .i64 x.1)) (h1 : w.cell? ⟨b, 1, none⟩ = some (.int .i64 x.2.1)) (h2 : w.cell? ⟨b, 2, none⟩ = some (.int .i64 x.2.2)) {k : Nat} (hk : k < 3) : w.cell? ⟨b, k, none⟩ = some (.int .i64 (compT x k)) := by
  have : k = 0 ∨ k = 1 ∨ k = 2 := by omega
  rcases this with rfl | rfl | rfl <;> assumption

/-- two triangles, the first ahead of the second: where they part first -/
theorem ltT_at {x y : Tri3} (h : ltT x y) {k : Nat} (hk : k < 3) (he : ∀ j, j < k → compT x j = compT y j) (hn : compT x k ≠ compT y k) : compT x k < compT y k := by
  have h0 := he 0
  have h1 := he 1
  have : k = 0 ∨ k = 1 ∨ k = 2 := by omega
  unfold ltT at h
  rcases this with rfl | rfl | rfl
  · simp [compT] at *; omega
  · have := h0 (by omega); simp [compT] at *; omega
  · have a := h0 (by omega); have b := h1 (by omega); simp [compT] at *; omega
theorem ltT_parts {x y : Tri3} (h : ltT x y) (he : ∀ j, j < 3 → compT x j = compT y j) : False := by
  have h0 := he 0 (by omega)
  have h1 := he 1 (by omega)
  have h2 := he 2 (by omega)
  simp [compT] at h0 h1 h2
  unfold ltT at h
  omega

set_option maxRecDepth 100000 in
set_option maxHeartbeats 1000000 in
theorem lessT_walk (x y : Tri3) (hlt : ltT x y) (w : World) :
    Calls Tryz.prog 40 #[vT x, vT y] w fun r w' => r = .returned (.bool true) ∧ Below w.heap.size w w' := by
  have HLT := Lib.hid hlt
  obtain ⟨W, hW⟩ : ∃ W, W = (w.alloc (.cells #[.int .i64 x.1, .int .i64 x.2.1, .int .i64 x.2.2] 32)).alloc (.cells #[.int .i64 y.1, .int .i64 y.2.1, .int .i64 y.2.2] 32) := ⟨_, rfl⟩
  have HBW : Hid (Below w.heap.size w W) := by rw [hW]; exact ((Below.refl _ w).alloc (Nat.le_refl _) _).alloc (by simp) _
  have hsz : W.heap.size = w.heap.size + 1 + 1 := by rw [hW]; simp
  have HX : Hid (∀ w2, Below W.heap.size W w2 → ∀ k, k < 3 → w2.cell? ⟨w.heap.size, k, none⟩ = some (.int .i64 (compT x k))) := by
    intro w2 hb k hk
    have f : ∀ i, w2.cell? ⟨w.heap.size, i, none⟩ = W.cell? ⟨w.heap.size, i, none⟩ := fun i => hb.cell (p := ⟨w.heap.size, i, none⟩) (by rw [hsz]; show w.heap.size < _; omega)
    refine compT_cells ?_ ?_ ?_ hk <;> (rw [f, hW]; refine Lib.cell?_alloc_some _ ?_; rw [World.cell?_alloc_at _ _ _ _ rfl]; rfl)
  have HY : Hid (∀ w2, Below W.heap.size W w2 → ∀ k, k < 3 → w2.cell? ⟨w.heap.size + 1, k, none⟩ = some (.int .i64 (compT y k))) := by
    intro w2 hb k hk
    have f : ∀ i, w2.cell? ⟨w.heap.size + 1, i, none⟩ = W.cell? ⟨w.heap.size + 1, i, none⟩ := fun i => hb.cell (p := ⟨w.heap.size + 1, i, none⟩) (by rw [hsz]; show w.heap.size + 1 < _; omega)
    refine compT_cells ?_ ?_ ?_ hk <;> (rw [f, hW]; rw [World.cell?_alloc_at _ _ _ _ (by simp)]; rfl)
  have HWE := Lib.hid hW
  clear hlt hW hsz
  unfold vT
  go_enter Tryz.func40, Tryz.ntmps40
  go_wp2
  rw [← HWE.out]
  go_loopw [5] (fun i wr => ∃ k : Nat, k ≤ 3 ∧ i = .int .i64 k ∧ Hid (Below W.heap.size W wr) ∧ Hid (∀ j, j < k → compT x j = compT y j)) (fun i _ => 3 - (intOf i).toNat)
  case atStart => exact ⟨0, by omega, rfl, Below.refl _ _, fun j hj => by omega⟩
  case round =>
    obtain ⟨k, hk, rfl, HBR, HE⟩ := hrel
    by_cases hlt : k < 3
    · have hx := HX.out wr HBR.out k hlt
      have hy := HY.out wr HBR.out k hlt
      by_cases he : compT x k = compT y k
      · have HN : Hid (∀ j, j < k + 1 → compT x j = compT y j) := fun j hj => by
          by_cases q : j = k
          · rw [q]; exact he
          · exact HE.out j (by omega)
        rw [he] at hx
        clear he
        go_wp2
        go_region_held3 (fun w' => w' = wr.drew) (first | rfl | assumption) (fail)
        go_wp2
        go_roundw
        case rel => exact ⟨k + 1, by omega, (by first | rfl | rw [wrapS (by omega)]), HBR.out.drew, HN⟩
        case measure => first | (simp [intOf]; omega) | (rw [wrapS (by omega)]; simp [intOf]; omega)
      · have hl := ltT_at HLT.out hlt HE.out he
        go_wp2
        go_region_held3 (fun w' => w' = wr.drew) (first | rfl | assumption) (fail)
        go_wp2
        go_region_held3 (fun w' => w' = wr.drew.drew) (first | rfl | assumption) (fail)
        go_wp2
        go_ret
        exact ⟨by simp, HBW.out.trans (HBR.out.drew.drew.mono HBW.out.size)⟩
    · have e : k = 3 := by omega
      subst e
      exact (ltT_parts HLT.out HE.out).elim

theorem sound_count {M : MeshM} (h : Sound M) : M.cnt = (trisL M.ap M.P.length).length := by
  have h1 := three_tris h.win h.rot
  have h2 := h.cnt
  omega
theorem trisL_few (ap : Int → Int → Option Int) (n : Nat) : (trisL ap n).length ≤ n * n := by
  unfold trisL
  rw [List.length_map]
  exact Nat.le_trans (List.length_filter_le _ _) (Nat.le_of_eq (idxL_len n))

/-! ### how often border edges come and leave -/
def bal (L : List (Int × Int)) (v : Int) : Int := (L.countP (fun x => decide (x.2 = v)) : Int) - (L.countP (fun x => decide (x.1 = v)) : Int)
theorem bal_nil (v : Int) : bal [] v = 0 := rfl
theorem bal_snoc (L : List (Int × Int)) (x : Int × Int) (v : Int) : bal (L ++ [x]) v = bal L v + (if x.2 = v then 1 else 0) - (if x.1 = v then 1 else 0) := by
  unfold bal
  simp only [List.countP_append, List.countP_cons, List.countP_nil]
  by_cases h1 : x.2 = v <;> by_cases h2 : x.1 = v <;> simp [h1, h2] <;> omega
theorem bal_bound (L : List (Int × Int)) (v : Int) : -(L.length : Int) ≤ bal L v ∧ bal L v ≤ L.length := by
  unfold bal
  have h1 := List.countP_le_length (p := fun x : Int × Int => decide (x.2 = v)) (l := L)
  have h2 := List.countP_le_length (p := fun x : Int × Int => decide (x.1 = v)) (l := L)
  omega
theorem bal_done {M : MeshM} (h : Sound M) (v : Int) : bal (bordL M.ap M.P.length) v = 0 := by
  unfold bal
  have := bord_even h.win h.rot v
  omega

end Go.Proofs.YthookkmgmholcaaGreatDoor
