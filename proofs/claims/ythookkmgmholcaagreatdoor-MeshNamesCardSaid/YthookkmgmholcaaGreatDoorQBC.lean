/- The meshes of the examples in MeshNames, plainly. -/
import Derived.Test.YthookkmgmholcaaGreatDoorQBA
namespace Go.Proofs.YthookkmgmholcaaGreatDoor
open Go.RowKit Tvf

theorem makeR_no {M : MeshM} {a b c : Int} (h : makeCode M a b c ≠ 0) : makeR M a b c = M := by unfold makeR; rw [if_neg h]
theorem killR_no {M : MeshM} {a b c : Int} (h : killCode M a b c ≠ 0) : killR M a b c = M := by
  unfold killR killCode at *
  split
  · rename_i e; rw [if_pos e] at h; exact absurd rfl h
  · rfl

def nmA : MeshM := makeR (emptyM sqP) 2 0 1
def nmB : MeshM := killR nmA 1 2 0
def nmC : MeshM := fxM nmB (upE nmB.fx (minI 1 0) (maxI 1 0) 5)
theorem nm_c0 : makeCode (emptyM sqP) 2 0 1 = 0 := by decide +kernel
theorem nm_c1 : makeCode sq1 0 1 3 = 14 := by decide +kernel
theorem nm_c2 : makeCode nmA 0 2 1 = 14 := by decide +kernel
theorem nm_c3 : makeCode nmA 2 0 1 = 14 := by decide +kernel
theorem nm_c4 : makeCode nmA 0 1 9 = 11 := by decide +kernel
theorem nm_c5 : makeCode nmA (-1) 0 1 = 11 := by decide +kernel
theorem nm_c6 : makeCode nmA 0 0 1 = 14 := by decide +kernel
theorem nm_k1 : killCode nmA 1 2 0 = 0 := by decide +kernel
theorem nm_k2 : killCode nmB 1 2 0 = 5 := by decide +kernel
theorem nm_kB : killR nmA 1 2 0 = nmB := by rw [nmB]
theorem nm_kC : killR nmB 1 2 0 = nmB := killR_no (by rw [nm_k2]; decide)
theorem nmA_P : nmA.P = sqP := makeR_P _ _ _ _
theorem nmB_P : nmB.P = sqP := (killR_P _ _ _ _).trans nmA_P
theorem nm_h0 : hasM nmB 0 = true := by decide +kernel
theorem nm_h1 : hasM nmB 1 = true := by decide +kernel
theorem nm_h4 : hasM nmB 4 = false := by decide +kernel
theorem nm_f1 : nmC.fx (minI 2 3) (maxI 2 3) = none := by decide +kernel
theorem nm_f2 : nmC.fx (minI 0 1) (maxI 0 1) = some 5 := by decide +kernel

theorem sq_allOk : allOk (emptyM sqP) [(0, 1, 2), (1, 3, 2)] := by
  have h1 := sq_c1
  have h2 := sq_c2
  unfold sq1 at h2
  simp only [allOk]
  exact ⟨h1, h2, trivial⟩
theorem nm_allOk : allOk (emptyM sqP) [(2, 0, 1)] := by
  have h1 := nm_c0
  simp only [allOk]
  exact ⟨h1, trivial⟩
theorem sq_fold : foldM (emptyM sqP) [(0, 1, 2), (1, 3, 2)] = sqM := by simp only [foldM_cons, foldM_nil, sqM, sq1]
theorem nm_fold : foldM (emptyM sqP) [(2, 0, 1)] = nmA := by simp only [foldM_cons, foldM_nil, nmA]

def nmO1 : MeshM := killR sqM 1 3 2
def nmO2 : MeshM := killR nmO1 0 1 2
theorem no_k1 : killCode sqM 1 3 2 = 0 := by decide +kernel
theorem no_k2 : killCode nmO1 0 1 2 = 0 := by decide +kernel
theorem no_cnt : nmO2.cnt = 0 := by decide +kernel
theorem no_raw : rawOf nmO2.ap 1 (nmO2.sp 1) = [] := by decide +kernel
theorem no_c : makeCode nmO2 0 3 2 = 0 := by decide +kernel
theorem no_kO1 : killR sqM 1 3 2 = nmO1 := by rw [nmO1]
theorem no_kO2 : killR nmO1 0 1 2 = nmO2 := by rw [nmO2]
theorem nmO2_P : nmO2.P = sqP := (killR_P _ _ _ _).trans ((killR_P _ _ _ _).trans sqM_P)
theorem no_sound : Sound nmO2 := killR_sound (killR_sound sq_sound _ _ _) _ _ _
theorem no_spokes : (spokesL nmO2 1).length = 0 := by
  unfold spokesL
  rw [no_raw]
  have : sortL [] = [] := by unfold sortL; rw [List.mergeSort_of_pairwise]; simp
  rw [this]
  decide +kernel
theorem sq_raw1 : rawOf sqM.ap 1 (sqM.sp 1) = [2, 0, 3, 2] := by decide +kernel
theorem sort4 : sortL [2, 0, 3, 2] = [0, 2, 2, 3] := by
  refine List.Perm.eq_of_pairwise (le := fun x y : Int => x ≤ y) (fun a b _ _ h1 h2 => by omega) ?_ ?_ ?_
  · have := List.pairwise_mergeSort (le := fun x y : Int => decide (x ≤ y)) (fun a b c h1 h2 => by simp at *; omega) (fun a b => by simp; omega) [2, 0, 3, 2]
    unfold sortL
    exact this.imp fun h => by simpa using h
  · decide
  · exact (List.mergeSort_perm _ _).trans (by decide)
theorem sq_spokes1 : (spokesL sqM 1).length = 3 := by
  unfold spokesL
  rw [sq_raw1, sort4]
  decide +kernel

end Go.Proofs.YthookkmgmholcaaGreatDoor
