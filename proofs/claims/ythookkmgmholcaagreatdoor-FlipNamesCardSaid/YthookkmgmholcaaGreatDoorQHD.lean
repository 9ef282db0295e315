/- The meshes of the examples in FlipNames, plainly. -/
import Derived.Test.YthookkmgmholcaaGreatDoorQHC
import Derived.Test.YthookkmgmholcaaGreatDoorZF
namespace Go.Proofs.YthookkmgmholcaaGreatDoor
open Go.RowKit Tvf

def Fm2 : Nat := 13835058055282163712
def fmP : List Pt := [(F0, F0), (F4, F0), (F4, F1), (F0, F1), (F2, F9)]
def foP : List Pt := [(F0, F0), (F9, F0), (F9, F9), (F1, F2)]
def fwP : List Pt := [(F0, F0), (F4, F0), (F2, F2), (F2, Fm2), (F9, F0)]
theorem fmP_len : fmP.length = 5 := rfl
theorem foP_len : foP.length = 4 := rfl
theorem fwP_len : fwP.length = 5 := rfl
theorem fm_64 : ∀ p, p ∈ fmP → pt64 p := pts64 (by decide)
theorem fo_64 : ∀ p, p ∈ foP → pt64 p := pts64 (by decide)
theorem fw_64 : ∀ p, p ∈ fwP → pt64 p := pts64 (by decide)
theorem fm_all : allCode fmP = 0 := by decide +kernel
theorem fo_all : allCode foP = 0 := by decide +kernel
theorem fw_all : allCode fwP = 0 := by decide +kernel

def fm1 : MeshM := makeR (emptyM fmP) 0 1 3
def fm2 : MeshM := makeR fm1 1 2 3
def fmA : MeshM := makeR fm2 3 2 4
def fmB : MeshM := turnR fmA 1 3
theorem fm_turn : turnR fmA 1 3 = fmB := by rw [fmB]
theorem fm_c1 : makeCode (emptyM fmP) 0 1 3 = 0 := by decide +kernel
theorem fm_c2 : makeCode fm1 1 2 3 = 0 := by decide +kernel
theorem fm_c3 : makeCode fm2 3 2 4 = 0 := by decide +kernel
theorem fm_allOk : allOk (emptyM fmP) [(0, 1, 3), (1, 2, 3), (3, 2, 4)] := by
  have h1 := fm_c1
  have h2 := fm_c2
  have h3 := fm_c3
  unfold fm2 at h3
  unfold fm1 at h2 h3
  simp only [allOk]
  exact ⟨h1, h2, h3, trivial⟩
theorem fm_fold : foldM (emptyM fmP) [(0, 1, 3), (1, 2, 3), (3, 2, 4)] = fmA := by simp only [foldM_cons, foldM_nil, fmA, fm2, fm1]
theorem fmA_P : fmA.P = fmP := (makeR_P _ _ _ _).trans ((makeR_P _ _ _ _).trans (makeR_P _ _ _ _))
theorem fmA_sound : Sound fmA := makeR_sound (makeR_sound (makeR_sound (emptyM_sound _) _ _ _) _ _ _) _ _ _
theorem fmB_P : fmB.P = fmP := (turnR_P _ _ _).trans fmA_P
theorem fmB_sound : Sound fmB := turnR_sound fmA_sound _ _
theorem fm_s13 : shB fmA 1 3 = true := by decide +kernel
theorem fm_m13 : mayB fmA 1 3 = true := by decide +kernel
theorem fm_31 : (shB fmA 3 1 && mayB fmA 3 1) = true := by decide +kernel
theorem fm_s01 : shB fmA 0 1 = false := by decide +kernel
theorem fm_p : (ptAt fmA 1, ptAt fmA 3, ptAt fmA (apD fmA 1 3), ptAt fmA (apD fmA 3 1)) = ((F4, F0), (F0, F1), (F0, F0), (F4, F1)) := by decide +kernel
theorem fm_tris : trisL fmB.ap fmB.P.length = [(0, 1, 2), (0, 2, 3), (2, 4, 3)] := by decide +kernel

def fo1 : MeshM := makeR (emptyM foP) 0 1 2
def foA : MeshM := makeR fo1 0 2 3
def foB : MeshM := turnR foA 0 2
theorem fo_c1 : makeCode (emptyM foP) 0 1 2 = 0 := by decide +kernel
theorem fo_c2 : makeCode fo1 0 2 3 = 0 := by decide +kernel
theorem fo_allOk : allOk (emptyM foP) [(0, 1, 2), (0, 2, 3)] := by
  have h1 := fo_c1
  have h2 := fo_c2
  unfold fo1 at h2
  simp only [allOk]
  exact ⟨h1, h2, trivial⟩
theorem fo_fold : foldM (emptyM foP) [(0, 1, 2), (0, 2, 3)] = foA := by simp only [foldM_cons, foldM_nil, foA, fo1]
theorem foA_P : foA.P = foP := (makeR_P _ _ _ _).trans (makeR_P _ _ _ _)
theorem foA_sound : Sound foA := makeR_sound (makeR_sound (emptyM_sound _) _ _ _) _ _ _
theorem foB_P : foB.P = foP := (turnR_P _ _ _).trans foA_P
theorem foB_sound : Sound foB := turnR_sound foA_sound _ _
theorem fo_s02 : shB foA 0 2 = true := by decide +kernel
theorem fo_m02 : mayB foA 0 2 = true := by decide +kernel
theorem fo_p : (ptAt foA 0, ptAt foA 2, ptAt foA (apD foA 0 2), ptAt foA (apD foA 2 0)) = ((F0, F0), (F9, F9), (F1, F2), (F9, F0)) := by decide +kernel
theorem fo_s13 : shB foB 1 3 = true := by decide +kernel
theorem fo_m13 : mayB foB 1 3 = true := by decide +kernel
theorem fo_p2 : (ptAt foB 1, ptAt foB 3, ptAt foB (apD foB 1 3), ptAt foB (apD foB 3 1)) = ((F9, F0), (F1, F2), (F0, F0), (F9, F9)) := by decide +kernel
theorem fo_tris : trisL foB.ap foB.P.length = [(0, 1, 3), (1, 2, 3)] := by decide +kernel
theorem fo_edges : edgeL foA.ap foA.P.length = [(0, 1), (0, 2), (0, 3), (1, 2), (2, 3)] := by decide +kernel

def foX : MeshM := fxM foA (upE foA.fx (minI 2 0) (maxI 2 0) 7)
theorem fxM_P (M : MeshM) (f : Int → Int → Option Int) : (fxM M f).P = M.P := rfl
theorem foX_P : foX.P = foP := by unfold foX; rw [fxM_P]; exact foA_P
theorem fo_h0 : hasM foA 0 = true := by decide +kernel
theorem fo_h2 : hasM foA 2 = true := by decide +kernel
theorem fx_s02 : shB foX 0 2 = true := by decide +kernel
theorem fx_m02 : mayB foX 0 2 = false := by decide +kernel
theorem fx_02 : (shB foX 0 2 && mayB foX 0 2) = false := by rw [fx_m02]; cases shB foX 0 2 <;> rfl
theorem fx_73 : (shB foX 7 (-3) && mayB foX 7 (-3)) = false := by decide +kernel
theorem fx_edges : edgeL foX.ap foX.P.length = [(0, 1), (0, 2), (0, 3), (1, 2), (2, 3)] := by decide +kernel

def fw1 : MeshM := makeR (emptyM fwP) 0 1 2
def fw2 : MeshM := makeR fw1 0 3 1
def fwA : MeshM := makeR fw2 2 3 4
theorem fw_c1 : makeCode (emptyM fwP) 0 1 2 = 0 := by decide +kernel
theorem fw_c2 : makeCode fw1 0 3 1 = 0 := by decide +kernel
theorem fw_c3 : makeCode fw2 2 3 4 = 0 := by decide +kernel
theorem fw_allOk : allOk (emptyM fwP) [(0, 1, 2), (0, 3, 1), (2, 3, 4)] := by
  have h1 := fw_c1
  have h2 := fw_c2
  have h3 := fw_c3
  unfold fw2 at h3
  unfold fw1 at h2 h3
  simp only [allOk]
  exact ⟨h1, h2, h3, trivial⟩
theorem fw_fold : foldM (emptyM fwP) [(0, 1, 2), (0, 3, 1), (2, 3, 4)] = fwA := by simp only [foldM_cons, foldM_nil, fwA, fw2, fw1]
theorem fwA_P : fwA.P = fwP := (makeR_P _ _ _ _).trans ((makeR_P _ _ _ _).trans (makeR_P _ _ _ _))
theorem fwA_sound : Sound fwA := makeR_sound (makeR_sound (makeR_sound (emptyM_sound _) _ _ _) _ _ _) _ _ _
theorem fw_s01 : shB fwA 0 1 = true := by decide +kernel
theorem fw_m01 : mayB fwA 0 1 = false := by decide +kernel
theorem fw_01 : (shB fwA 0 1 && mayB fwA 0 1) = false := by rw [fw_m01]; cases shB fwA 0 1 <;> rfl

end Go.Proofs.YthookkmgmholcaaGreatDoor
