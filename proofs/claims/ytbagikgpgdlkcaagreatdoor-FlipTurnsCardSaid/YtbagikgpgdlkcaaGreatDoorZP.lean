/- Part of the proof. No conditions. -/
import Derived.Test.YtbagikgpgdlkcaaGreatDoorZE
import Derived.Test.YtbagikgpgdlkcaaGreatDoorZO
set_option linter.all false
set_option maxHeartbeats 8000000
set_option maxRecDepth 100000
namespace Go.Proofs.YtbagikgpgdlkcaaGreatDoor
open Go.RowKit Tvf
theorem cwithin_walk {a b c d : Pt} {t s : Int} (hT : ∀ w,Calls Tryz.prog 76 #[V a,V b,V c] w fun r w' => r = .returned (.int .i64 t) ∧ Below w.heap.size w w')
  (hS : ∀ w,Calls Tryz.prog 88 #[V a,V b,V c,V d] w fun r w' => r = .returned (.int .i64 s) ∧ Below w.heap.size w w') (ht : (t == 0) = false) (w : World) :
  Calls Tryz.prog 50 #[V a,V b,V c,V d] w fun r w' => r = .returned (.bool (s == t)) ∧ Below w.heap.size w w' := by
 obtain ⟨ax,ay⟩ := a
 obtain ⟨bx,bY⟩ := b
 obtain ⟨cx,cy⟩ := c
 obtain ⟨dx,dy⟩ := d
 have HT := Lib.hid hT
 have HS := Lib.hid hS
 clear hT hS
 have ht' : (t != 0) = true := by simp only [bne,ht]; rfl
 unfold V at *
 cases hst : s == t
 all_goals
  go_enter Tryz.func50,Tryz.ntmps50
  go_wp2_with (first
   |(go_at_call 76; refine (HT.out _).mono ?_; rintro r w1 ⟨rfl,hb1⟩; have p1 := (P8.made w ax ay bx bY cx cy dx dy 68).below hb1; obtain ⟨q1,q2,q3,q4,q5,q6,q7,q8⟩ := p1)
   |(go_at_call 88; refine (HS.out _).mono ?_; rintro r w2 ⟨rfl,hb2⟩))
  go_ret
  have hbw : Below w.heap.size w w1 := ((((Below.refl w.heap.size w).alloc (Nat.le_refl _) _).alloc (by simp) _).alloc (by simp <;> omega) _).alloc (by simp <;> omega) _ |>.trans (hb1.mono (by simp <;> omega))
  exact ⟨rfl,hbw.trans (hb2.mono hbw.size)⟩
def F0 : Nat := 0
def F1 : Nat := 4607182418800017408
def F2 : Nat := 4611686018427387904
def F4 : Nat := 4616189618054758400
def F9 : Nat := 4621256167635550208
theorem pts64 {l : List Pt} (h : l.all (fun p => decide (p.1 < 18446744073709551616) && decide (p.2 < 18446744073709551616)) = true) : ∀ p,p ∈ l → pt64 p := by
 intro p hp
 have := List.all_eq_true.1 h p hp
 rw [Bool.and_eq_true,decide_eq_true_eq,decide_eq_true_eq] at this
 unfold pt64
 exact ⟨by have := this.1; omega,by have := this.2; omega⟩
theorem wt1 (w : World) : Calls Tryz.prog 50 #[V (F4,F0),V (F0,F1),V (F0,F0),V (F4,F1)] w fun r w' => r = .returned (.bool false) ∧ Below w.heap.size w w' := by
 have h64 : ∀ p,p ∈ [(F4,F0),(F0,F1),(F0,F0),(F4,F1)] → pt64 p := pts64 (by decide)
 have hok : [(F4,F0),(F0,F1),(F0,F0),(F4,F1)].all ptOK = true := by decide +kernel
 have hf : fastRun F4 F0 F0 F1 F0 F0 F4 F1 = some (0,false) := by decide +kernel
 have hd : sgnI (det4 (F4,F0) (F0,F1) (F0,F0) (F4,F1)) = 0 := by decide +kernel
 have hs : signI (F4,F0) (F0,F1) (F0,F0) = 1 := by decide +kernel
 refine cwithin_walk (t := 1) (s := 0) (fun w => ?_) (fun w => ?_) (by decide) w
 ·have := orient_sign (F4,F0) (F0,F1) (F0,F0) (pts64 (by decide)) w
  rwa [hs] at this
 ·have := csign_exact F4 F0 F0 F1 F0 F0 F4 F1 h64 hok (cfast_walk h64 hok hf) w
  rwa [hd] at this
theorem wt2 (w : World) : Calls Tryz.prog 50 #[V (F0,F0),V (F9,F9),V (F1,F2),V (F9,F0)] w fun r w' => r = .returned (.bool true) ∧ Below w.heap.size w w' := by
 have h64 : ∀ p,p ∈ [(F0,F0),(F9,F9),(F1,F2),(F9,F0)] → pt64 p := pts64 (by decide)
 have hok : [(F0,F0),(F9,F9),(F1,F2),(F9,F0)].all ptOK = true := by decide +kernel
 have hf : fastRun F0 F0 F9 F9 F1 F2 F9 F0 = some (1,true) := by decide +kernel
 have hs : signI (F0,F0) (F9,F9) (F1,F2) = 1 := by decide +kernel
 refine cwithin_walk (t := 1) (s := 1) (fun w => ?_) (fun w => ?_) (by decide) w
 ·have := orient_sign (F0,F0) (F9,F9) (F1,F2) (pts64 (by decide)) w
  rwa [hs] at this
 ·exact csign_fast F0 F0 F9 F9 F1 F2 F9 F0 1 (cfast_walk h64 hok hf) w
theorem wt3 (w : World) : Calls Tryz.prog 50 #[V (F9,F0),V (F1,F2),V (F0,F0),V (F9,F9)] w fun r w' => r = .returned (.bool false) ∧ Below w.heap.size w w' := by
 have h64 : ∀ p,p ∈ [(F9,F0),(F1,F2),(F0,F0),(F9,F9)] → pt64 p := pts64 (by decide)
 have hok : [(F9,F0),(F1,F2),(F0,F0),(F9,F9)].all ptOK = true := by decide +kernel
 have hf : fastRun F9 F0 F1 F2 F0 F0 F9 F9 = some (-1,true) := by decide +kernel
 have hs : signI (F9,F0) (F1,F2) (F0,F0) = 1 := by decide +kernel
 refine cwithin_walk (t := 1) (s := -1) (fun w => ?_) (fun w => ?_) (by decide) w
 ·have := orient_sign (F9,F0) (F1,F2) (F0,F0) (pts64 (by decide)) w
  rwa [hs] at this
 ·exact csign_fast F9 F0 F1 F2 F0 F0 F9 F9 (-1) (cfast_walk h64 hok hf) w
end Go.Proofs.YtbagikgpgdlkcaaGreatDoor
