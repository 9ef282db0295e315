/- Part of the proof. No conditions. -/
import Derived.Test.YtbagikgpgdlkcaaGreatDoorZZ
set_option linter.all false
set_option maxHeartbeats 8000000
set_option maxRecDepth 100000
namespace Go.Proofs.YtbagikgpgdlkcaaGreatDoor
open Go.RowKit Tvf Go.Maps Go.WideMaps
abbrev tTri : TypeId := 61
def tv3 (t : Tri3) : Value := .agg #[.int .i64 t.1,.int .i64 t.2.1,.int .i64 t.2.2]
def cellI (w : World) (b i : Nat) : Int := match w.cell? ⟨b,i,none⟩ with | some (.int _ z) => z | _ => 0
def rotM (a b c : Int) : Nat := if a < b ∧ a < c then 0 else if b < c ∧ b < a then 1 else 2
theorem Box3.ints {w : World} {b : Nat} {x y z : Int} (h : Box3 tTri w b (.int .i64 x) (.int .i64 y) (.int .i64 z)) : cellI w b 0 = x ∧ cellI w b 1 = y ∧ cellI w b 2 = z := by
 obtain ⟨h0,h1,h2⟩ := h.c
 unfold cellI
 rw [h0,h1,h2]
 exact ⟨rfl,rfl,rfl⟩
theorem own3_rot (t : Tri3) (h : t.1 ≠ t.2.1 ∧ t.2.1 ≠ t.2.2 ∧ t.1 ≠ t.2.2) : own3 (t.2.1,t.2.2,t.1) = own3 t := by
 obtain ⟨a,b,c⟩ := t
 dsimp only at h
 unfold own3
 dsimp only
 (repeat' split) <;> first | rfl | (exfalso; omega)
theorem own3_lead_id {t : Tri3} (h : t.1 < t.2.1 ∧ t.1 < t.2.2) : own3 t = t := by unfold own3; rw [if_pos h]
theorem own15 {t : Tri3} (hne : t.1 ≠ t.2.1 ∧ t.2.1 ≠ t.2.2 ∧ t.1 ≠ t.2.2) (w : World) :
  Calls Tryz.prog 55 #[tv3 t] w fun r w' => r = .returned (tv3 (own3 t)) ∧ Below w.heap.size w w' := by
 obtain ⟨W0,hW0⟩ : ∃ W0 : World,W0 = (w.alloc (.cells #[.int .i64 t.1,.int .i64 t.2.1,.int .i64 t.2.2] tTri)).alloc (.cells #[.int .i64 0,.int .i64 0,.int .i64 0] tTri) := ⟨_,rfl⟩
 have HW0 := Lib.hid hW0
 have hs1 : (w.alloc (.cells #[.int .i64 t.1,.int .i64 t.2.1,.int .i64 t.2.2] tTri)).heap.size = w.heap.size + 1 := by simp
 have HA : Hid (Box3 tTri W0 w.heap.size (.int .i64 t.1) (.int .i64 t.2.1) (.int .i64 t.2.2)) := by rw [hW0]; exact (Box3.new _ _ _ _ _).al _
 have HR : Hid (Box3 tTri W0 (w.heap.size + 1) (.int .i64 0) (.int .i64 0) (.int .i64 0)) := by rw [hW0,← hs1]; exact Box3.new _ _ _ _ _
 have HB : Hid (Below w.heap.size w W0) := by rw [hW0]; exact ((Below.refl _ _).alloc (Nat.le_refl _) _).alloc (by simp) _
 have HNE := Lib.hid hne
 clear hW0 hs1 hne
 unfold tv3
 go_enter Tryz.func55,Tryz.ntmps55
 go_upto_block 0 with fail
 rw [← HW0.out]
 go_wp2_with fail
 go_loopw [] (fun wr => ∃ u : Tri3,Hid (own3 u = own3 t ∧ (u.1 ≠ u.2.1 ∧ u.2.1 ≠ u.2.2 ∧ u.1 ≠ u.2.2)) ∧ Hid (Box3 tTri wr w.heap.size (.int .i64 u.1) (.int .i64 u.2.1) (.int .i64 u.2.2)) ∧ Hid (Box3 tTri wr (w.heap.size + 1) (.int .i64 0) (.int .i64 0) (.int .i64 0)) ∧ Hid (Below w.heap.size w wr)) (fun wr => rotM (cellI wr w.heap.size 0) (cellI wr w.heap.size 1) (cellI wr w.heap.size 2))
 case atStart => exact ⟨t,⟨rfl,HNE.out⟩,HA.out,HR.out,HB.out⟩
 case round =>
  obtain ⟨⟨u0,u1,u2⟩,HU,HA1,HR1,HB1⟩ := hrel
  obtain ⟨c0,c1,c2⟩ := HA1.out.c
  have f0 := HA1.out.fz 0
  have f1 := HA1.out.fz 1
  have f2 := HA1.out.fz 2
  have HA2 := Lib.hid (HA1.out.put (.int .i64 u1) (.int .i64 u2) (.int .i64 u0))
  have HR2 : Hid (Box3 tTri (((wr.setCell ⟨w.heap.size,0,none⟩ (.int .i64 u1)).setCell ⟨w.heap.size,1,none⟩ (.int .i64 u2)).setCell ⟨w.heap.size,2,none⟩ (.int .i64 u0)) (w.heap.size + 1) (.int .i64 0) (.int .i64 0) (.int .i64 0)) := ((HR1.out.far (by show w.heap.size + 1 ≠ w.heap.size; omega) _).far (by show w.heap.size + 1 ≠ w.heap.size; omega) _).far (by show w.heap.size + 1 ≠ w.heap.size; omega) _
  have HB2 : Hid (Below w.heap.size w (((wr.setCell ⟨w.heap.size,0,none⟩ (.int .i64 u1)).setCell ⟨w.heap.size,1,none⟩ (.int .i64 u2)).setCell ⟨w.heap.size,2,none⟩ (.int .i64 u0))) := ((HB1.out.setCell (p := ⟨w.heap.size,0,none⟩) (Nat.le_refl _) _).setCell (p := ⟨w.heap.size,1,none⟩) (Nat.le_refl _) _).setCell (p := ⟨w.heap.size,2,none⟩) (Nat.le_refl _) _
  have HROT : Hid (u1 ≠ u2 ∧ u2 ≠ u0 ∧ u1 ≠ u0) := by have := HU.out.2; dsimp only at this; unfold Hid; omega
  by_cases h1 : u1 < u0
  ·go_wp2
   go_roundw
   case rel => exact ⟨(u1,u2,u0),⟨(own3_rot (u0,u1,u2) HU.out.2).trans HU.out.1,HROT.out⟩,HA2.out,HR2.out,HB2.out⟩
   case measure =>
    obtain ⟨e0,e1,e2⟩ := Box3.ints HA2.out
    obtain ⟨g0,g1,g2⟩ := Box3.ints HA1.out
    simp only [e0,e1,e2,g0,g1,g2]
    have := HU.out.2
    dsimp only at this
    unfold rotM
    split <;> split <;> (try split) <;> (try split) <;> omega
  ·by_cases h2 : u2 < u0
   ·go_wp2
    go_roundw
    case rel => exact ⟨(u1,u2,u0),⟨(own3_rot (u0,u1,u2) HU.out.2).trans HU.out.1,HROT.out⟩,HA2.out,HR2.out,HB2.out⟩
    case measure =>
     obtain ⟨e0,e1,e2⟩ := Box3.ints HA2.out
     obtain ⟨g0,g1,g2⟩ := Box3.ints HA1.out
     simp only [e0,e1,e2,g0,g1,g2]
     have := HU.out.2
     dsimp only at this
     unfold rotM
     split <;> split <;> (try split) <;> (try split) <;> omega
   ·have HLD : Hid (own3 t = (u0,u1,u2)) := by
     have := HU.out.2
     dsimp only at this
     unfold Hid
     rw [← HU.out.1,own3_lead_id (t := (u0,u1,u2)) (by dsimp only; omega)]
    obtain ⟨r0,r1,r2⟩ := HR1.out.c
    have g0 := HR1.out.fz 0
    have g1 := HR1.out.fz 1
    have g2 := HR1.out.fz 2
    obtain ⟨k0,k1,k2⟩ := (HR1.out.put (.int .i64 u0) (.int .i64 u1) (.int .i64 u2)).c
    go_wp2
    refine bodyPost_ret (by simp [results,Tryz.results55,go_sem,k0,k1,k2]; try rfl) rfl ?_
    rw [HLD.out]
    exact ⟨rfl,((HB1.out.setCell (p := ⟨w.heap.size + 1,0,none⟩) (by show w.heap.size ≤ w.heap.size + 1; omega) _).setCell (p := ⟨w.heap.size + 1,1,none⟩) (by show w.heap.size ≤ w.heap.size + 1; omega) _).setCell (p := ⟨w.heap.size + 1,2,none⟩) (by show w.heap.size ≤ w.heap.size + 1; omega) _⟩
def ltTb (x y : Tri3) : Bool := decide (x.1 < y.1) || (decide (x.1 = y.1) && (decide (x.2.1 < y.2.1) || (decide (x.2.1 = y.2.1) && decide (x.2.2 < y.2.2))))
theorem ltTb_iff (x y : Tri3) : ltTb x y = true ↔ ltT x y := by
 unfold ltTb ltT
 simp only [Bool.or_eq_true,Bool.and_eq_true,decide_eq_true_eq]
theorem ltTb_at {x y : Tri3} {k : Nat} (hk : k < 3) (h : ∀ j,j < k → tvT x j = tvT y j) (hne : ¬tvT x k = tvT y k) : ltTb x y = decide (tvT x k < tvT y k) := by
 have h4 : k = 0 ∨ k = 1 ∨ k = 2 := by omega
 unfold ltTb
 rcases h4 with rfl | rfl | rfl
 ·have e : ¬x.1 = y.1 := hne
  rw [decide_eq_false e,Bool.false_and,Bool.or_false]; rfl
 ·have e0 : x.1 = y.1 := h 0 (by omega)
  have e : ¬x.2.1 = y.2.1 := hne
  rw [decide_eq_true e0,decide_eq_false e,decide_eq_false (by omega : ¬x.1 < y.1),Bool.false_and,Bool.or_false,Bool.true_and,Bool.false_or]; rfl
 ·have e0 : x.1 = y.1 := h 0 (by omega)
  have e1 : x.2.1 = y.2.1 := h 1 (by omega)
  rw [decide_eq_true e0,decide_eq_true e1,decide_eq_false (by omega : ¬x.1 < y.1),decide_eq_false (by omega : ¬x.2.1 < y.2.1)]
  simp only [Bool.true_and,Bool.false_or]; rfl
theorem ltTb_same {x y : Tri3} (h : ∀ j,j < 3 → tvT x j = tvT y j) : ltTb x y = false := by
 have e0 : x.1 = y.1 := h 0 (by omega)
 have e1 : x.2.1 = y.2.1 := h 1 (by omega)
 have e2 : x.2.2 = y.2.2 := h 2 (by omega)
 unfold ltTb
 rw [decide_eq_false (by omega : ¬x.1 < y.1),decide_eq_false (by omega : ¬x.2.1 < y.2.1),decide_eq_false (by omega : ¬x.2.2 < y.2.2)]
 simp
theorem tri_box {w : World} {b : Nat} {x : Tri3} (h : C3 w b (.int .i64 x.1) (.int .i64 x.2.1) (.int .i64 x.2.2)) {k : Nat} (hk : k < 3) : w.cell? ⟨b,k,none⟩ = some (.int .i64 (tvT x k)) := by
 have h4 : k = 0 ∨ k = 1 ∨ k = 2 := by omega
 rcases h4 with rfl | rfl | rfl
 ·exact h.1
 ·exact h.2.1
 ·exact h.2.2
theorem less15 (x y : Tri3) (w : World) :
  Calls Tryz.prog 56 #[tv3 x,tv3 y] w fun r w' => r = .returned (.bool (ltTb x y)) ∧ Below w.heap.size w w' := by
 obtain ⟨W0,hW0⟩ : ∃ W0 : World,W0 = (w.alloc (.cells #[.int .i64 x.1,.int .i64 x.2.1,.int .i64 x.2.2] tTri)).alloc (.cells #[.int .i64 y.1,.int .i64 y.2.1,.int .i64 y.2.2] tTri) := ⟨_,rfl⟩
 have HW0 := Lib.hid hW0
 have h2 := C3.two w (.int .i64 x.1) (.int .i64 x.2.1) (.int .i64 x.2.2) (.int .i64 y.1) (.int .i64 y.2.1) (.int .i64 y.2.2) tTri tTri
 rw [← hW0] at h2
 have HC : Hid (∀ W k,Below W0.heap.size W0 W → k < 3 → W.cell? ⟨w.heap.size,k,none⟩ = some (.int .i64 (tvT x k)) ∧ W.cell? ⟨w.heap.size + 1,k,none⟩ = some (.int .i64 (tvT y k))) := fun W k hb hk => ⟨tri_box (h2.1.below hb) hk,tri_box (h2.2.below hb) hk⟩
 have HB : Hid (Below w.heap.size w W0) := by rw [hW0]; exact ((Below.refl _ _).alloc (Nat.le_refl _) _).alloc (by simp) _
 clear hW0 h2
 unfold tv3
 go_enter Tryz.func56,Tryz.ntmps56
 go_upto_block 0 with fail
 rw [← HW0.out]
 go_wp2_with fail
 go_loopw [5] (fun s5 wr => ∃ k : Nat,k ≤ 3 ∧ s5 = .int .i64 k ∧ Hid (∀ j,j < k → tvT x j = tvT y j) ∧ Hid (Below W0.heap.size W0 wr)) (fun s5 _ => 3 - (intOf s5).toNat)
 case atStart => exact ⟨0,by omega,rfl,fun j hj => absurd hj (by omega),Below.refl _ _⟩
 case round =>
  obtain ⟨k,hk,rfl,HK,HBR⟩ := hrel
  have HBF : Hid (Below w.heap.size w wr) := HB.out.trans (HBR.out.mono HB.out.size)
  by_cases hk3 : k < 3
  ·obtain ⟨c0,c1⟩ := HC.out _ k HBR.out hk3
   have hz : (k : Int) < 3 := by omega
   have hk0 : (0 : Int) ≤ (k : Int) := by omega
   have hw1 : wrap64 ((k : Int) + 1) = (k : Int) + 1 := by unfold wrap64; omega
   have HLT : Hid (¬tvT x k = tvT y k → ltTb x y = decide (tvT x k < tvT y k)) := fun e => ltTb_at hk3 HK.out e
   have HNX : Hid (tvT x k = tvT y k → ∀ j,j < k + 1 → tvT x j = tvT y j) := fun e j hj => by
    rcases Nat.lt_or_ge j k with q | q
    ·exact HK.out j q
    ·rw [show j = k by omega]; exact e
   generalize tvT x k = u at c0 HLT HNX
   generalize tvT y k = v at c1 HLT HNX
   by_cases e : u = v
   ·have HN2 := Lib.hid (HNX.out e)
    subst e
    go_upto_region 4 with fail
    go_quiet (fail)
    go_wp2
    go_roundw
    case rel => exact ⟨k + 1,by omega,by (try rw [hw1]); rfl,HN2.out,below_q15 HBR.out nq⟩
    case measure => (try rw [hw1]); simp only [intOf]; omega
   ·have HL2 := Lib.hid (HLT.out e)
    go_upto_region 4 with fail
    go_quiet (fail)
    go_upto_region 5 with fail
    go_quiet (fail)
    go_wp2
    go_ret
    rw [HL2.out]
    exact ⟨rfl,below_q15 (below_q15 HBF.out _) _⟩
  ·have e : k = 3 := by omega
   subst e
   have HL2 := Lib.hid (ltTb_same HK.out)
   go_wp2
   go_ret
   rw [HL2.out]
   exact ⟨rfl,HBF.out⟩
end Go.Proofs.YtbagikgpgdlkcaaGreatDoor
