/- Part of the proof. No conditions. -/
import Derived.Test.YtbagikgpgdlkcaaGreatDoorZD
set_option linter.all false
set_option maxHeartbeats 8000000
set_option maxRecDepth 100000
namespace Go.Proofs.YtbagikgpgdlkcaaGreatDoor
open Go.RowKit Tvf
theorem heap_new4 (w : World) (A B C D E : Obj) : (((((w.alloc A).alloc B).alloc C).alloc D).alloc E).heap[w.heap.size + 1 + 1 + 1 + 1]? = some E := by
 have h := heap_alloc_new ((((w.alloc A).alloc B).alloc C).alloc D) E
 have e : ((((w.alloc A).alloc B).alloc C).alloc D).heap.size = w.heap.size + 1 + 1 + 1 + 1 := by simp
 rw [e] at h; exact h
def fastRun (ax ay bx bY cx cy dx dy : Nat) : Option (Int × Bool) :=
 (D.sub ax dx).bind fun A1 =>
 (D.sub ay dy).bind fun A2 =>
 (D.sub bx dx).bind fun B1 =>
 (D.sub bY dy).bind fun B2 =>
 (D.sub cx dx).bind fun C1 =>
 (D.sub cy dy).bind fun C2 =>
 (D.mul B1 C2).bind fun M1 =>
 (D.mul C1 B2).bind fun M2 =>
 (D.mul C1 A2).bind fun M3 =>
 (D.mul A1 C2).bind fun M4 =>
 (D.mul A1 B2).bind fun M5 =>
 (D.mul B1 A2).bind fun M6 =>
 (D.mul A1 A1).bind fun P1 =>
 (D.mul A2 A2).bind fun P2 =>
 (D.add P1 P2).bind fun AL =>
 (D.mul B1 B1).bind fun P3 =>
 (D.mul B2 B2).bind fun P4 =>
 (D.add P3 P4).bind fun BL =>
 (D.mul C1 C1).bind fun P5 =>
 (D.mul C2 C2).bind fun P6 =>
 (D.add P5 P6).bind fun CL =>
 (D.sub M1 M2).bind fun S1 =>
 (D.mul AL S1).bind fun T1 =>
 (D.sub M3 M4).bind fun S2 =>
 (D.mul BL S2).bind fun T2 =>
 (D.add T1 T2).bind fun U1 =>
 (D.sub M5 M6).bind fun S3 =>
 (D.mul CL S3).bind fun T3 =>
 (D.add U1 T3).bind fun DT =>
 (D.add (M1 % 2 ^ 63) (M2 % 2 ^ 63)).bind fun N1 =>
 (D.mul N1 AL).bind fun V1 =>
 (D.add (M3 % 2 ^ 63) (M4 % 2 ^ 63)).bind fun N2 =>
 (D.mul N2 BL).bind fun V2 =>
 (D.add V1 V2).bind fun X1 =>
 (D.add (M5 % 2 ^ 63) (M6 % 2 ^ 63)).bind fun N3 =>
 (D.mul N3 CL).bind fun V3 =>
 (D.add X1 V3).bind fun X2 =>
 (D.mul 4383128337338335238 X2).bind fun MO =>
 if M1 < 2 ^ 64 ∧ M2 < 2 ^ 64 ∧ M3 < 2 ^ 64 ∧ M4 < 2 ^ 64 ∧ M5 < 2 ^ 64 ∧ M6 < 2 ^ 64 then (if fgt DT MO then some (1,true) else if flt DT (fopp MO) then some (-1,true) else some (0,false)) else none
theorem cfast_walk {ax ay bx bY cx cy dx dy : Nat} {s : Int} {ok : Bool} (h64 : ∀ p,p ∈ [(ax,ay),(bx,bY),(cx,cy),(dx,dy)] → pt64 p) (hok : [(ax,ay),(bx,bY),(cx,cy),(dx,dy)].all ptOK = true)
  (h : fastRun ax ay bx bY cx cy dx dy = some (s,ok)) (w : World) :
  Calls Tryz.prog 110 #[V (ax,ay),V (bx,bY),V (cx,cy),V (dx,dy)] w fun r w' => r = .returned (.tuple #[.int .i64 s,.bool ok]) ∧ Below w.heap.size w w' := by
 have HM := Lib.hid (good4 (ax,ay) (bx,bY) (cx,cy) (dx,dy) h64 true hok)
 unfold fastRun at h
 simp only [Option.bind_eq_some_iff] at h
 obtain ⟨A1,e0,A2,e1,B1,e2,B2,e3,C1,e4,C2,e5,M1,e6,M2,e7,M3,e8,M4,e9,M5,e10,M6,e11,P1,e12,P2,e13,AL,e14,P3,e15,P4,e16,BL,e17,P5,e18,P6,e19,CL,e20,S1,e21,T1,e22,S2,e23,T2,e24,U1,e25,S3,e26,T3,e27,DT,e28,N1,e29,V1,e30,N2,e31,V2,e32,X1,e33,N3,e34,V3,e35,X2,e36,MO,e37,h⟩ := h
 split at h
 case isFalse => cases h
 case isTrue hl =>
  obtain ⟨l1,l2,l3,l4,l5,l6⟩ := hl
  have HA := Lib.hid (fun w => abs_any M1 l1 w)
  have HB := Lib.hid (fun w => abs_any M2 l2 w)
  have HC := Lib.hid (fun w => abs_any M3 l3 w)
  have HD := Lib.hid (fun w => abs_any M4 l4 w)
  have HE := Lib.hid (fun w => abs_any M5 l5 w)
  have HF := Lib.hid (fun w => abs_any M6 l6 w)
  clear h64 hok l1 l2 l3 l4 l5 l6
  have r0 := fun (w : World) (t : TypeId) => run_float_arith (P := Tryz.prog) w .sub t .f64 ax dx A1 e0
  have r1 := fun (w : World) (t : TypeId) => run_float_arith (P := Tryz.prog) w .sub t .f64 ay dy A2 e1
  have r2 := fun (w : World) (t : TypeId) => run_float_arith (P := Tryz.prog) w .sub t .f64 bx dx B1 e2
  have r3 := fun (w : World) (t : TypeId) => run_float_arith (P := Tryz.prog) w .sub t .f64 bY dy B2 e3
  have r4 := fun (w : World) (t : TypeId) => run_float_arith (P := Tryz.prog) w .sub t .f64 cx dx C1 e4
  have r5 := fun (w : World) (t : TypeId) => run_float_arith (P := Tryz.prog) w .sub t .f64 cy dy C2 e5
  have r6 := fun (w : World) (t : TypeId) => run_float_arith (P := Tryz.prog) w .mul t .f64 B1 C2 M1 e6
  have r7 := fun (w : World) (t : TypeId) => run_float_arith (P := Tryz.prog) w .mul t .f64 C1 B2 M2 e7
  have r8 := fun (w : World) (t : TypeId) => run_float_arith (P := Tryz.prog) w .mul t .f64 C1 A2 M3 e8
  have r9 := fun (w : World) (t : TypeId) => run_float_arith (P := Tryz.prog) w .mul t .f64 A1 C2 M4 e9
  have r10 := fun (w : World) (t : TypeId) => run_float_arith (P := Tryz.prog) w .mul t .f64 A1 B2 M5 e10
  have r11 := fun (w : World) (t : TypeId) => run_float_arith (P := Tryz.prog) w .mul t .f64 B1 A2 M6 e11
  have r12 := fun (w : World) (t : TypeId) => run_float_arith (P := Tryz.prog) w .mul t .f64 A1 A1 P1 e12
  have r13 := fun (w : World) (t : TypeId) => run_float_arith (P := Tryz.prog) w .mul t .f64 A2 A2 P2 e13
  have r14 := fun (w : World) (t : TypeId) => run_float_arith (P := Tryz.prog) w .add t .f64 P1 P2 AL e14
  have r15 := fun (w : World) (t : TypeId) => run_float_arith (P := Tryz.prog) w .mul t .f64 B1 B1 P3 e15
  have r16 := fun (w : World) (t : TypeId) => run_float_arith (P := Tryz.prog) w .mul t .f64 B2 B2 P4 e16
  have r17 := fun (w : World) (t : TypeId) => run_float_arith (P := Tryz.prog) w .add t .f64 P3 P4 BL e17
  have r18 := fun (w : World) (t : TypeId) => run_float_arith (P := Tryz.prog) w .mul t .f64 C1 C1 P5 e18
  have r19 := fun (w : World) (t : TypeId) => run_float_arith (P := Tryz.prog) w .mul t .f64 C2 C2 P6 e19
  have r20 := fun (w : World) (t : TypeId) => run_float_arith (P := Tryz.prog) w .add t .f64 P5 P6 CL e20
  have r21 := fun (w : World) (t : TypeId) => run_float_arith (P := Tryz.prog) w .sub t .f64 M1 M2 S1 e21
  have r22 := fun (w : World) (t : TypeId) => run_float_arith (P := Tryz.prog) w .mul t .f64 AL S1 T1 e22
  have r23 := fun (w : World) (t : TypeId) => run_float_arith (P := Tryz.prog) w .sub t .f64 M3 M4 S2 e23
  have r24 := fun (w : World) (t : TypeId) => run_float_arith (P := Tryz.prog) w .mul t .f64 BL S2 T2 e24
  have r25 := fun (w : World) (t : TypeId) => run_float_arith (P := Tryz.prog) w .add t .f64 T1 T2 U1 e25
  have r26 := fun (w : World) (t : TypeId) => run_float_arith (P := Tryz.prog) w .sub t .f64 M5 M6 S3 e26
  have r27 := fun (w : World) (t : TypeId) => run_float_arith (P := Tryz.prog) w .mul t .f64 CL S3 T3 e27
  have r28 := fun (w : World) (t : TypeId) => run_float_arith (P := Tryz.prog) w .add t .f64 U1 T3 DT e28
  have r29 := fun (w : World) (t : TypeId) => run_float_arith (P := Tryz.prog) w .add t .f64 (M1 % 2 ^ 63) (M2 % 2 ^ 63) N1 e29
  have r30 := fun (w : World) (t : TypeId) => run_float_arith (P := Tryz.prog) w .mul t .f64 N1 AL V1 e30
  have r31 := fun (w : World) (t : TypeId) => run_float_arith (P := Tryz.prog) w .add t .f64 (M3 % 2 ^ 63) (M4 % 2 ^ 63) N2 e31
  have r32 := fun (w : World) (t : TypeId) => run_float_arith (P := Tryz.prog) w .mul t .f64 N2 BL V2 e32
  have r33 := fun (w : World) (t : TypeId) => run_float_arith (P := Tryz.prog) w .add t .f64 V1 V2 X1 e33
  have r34 := fun (w : World) (t : TypeId) => run_float_arith (P := Tryz.prog) w .add t .f64 (M5 % 2 ^ 63) (M6 % 2 ^ 63) N3 e34
  have r35 := fun (w : World) (t : TypeId) => run_float_arith (P := Tryz.prog) w .mul t .f64 N3 CL V3 e35
  have r36 := fun (w : World) (t : TypeId) => run_float_arith (P := Tryz.prog) w .add t .f64 X1 V3 X2 e36
  have r37 := fun (w : World) (t : TypeId) => run_float_arith (P := Tryz.prog) w .mul t .f64 4383128337338335238 X2 MO e37
  clear e0 e1 e2 e3 e4 e5 e6 e7 e8 e9 e10 e11 e12 e13 e14 e15 e16 e17 e18 e19 e20 e21 e22 e23 e24 e25 e26 e27 e28 e29 e30 e31 e32 e33 e34 e35 e36 e37
  unfold V
  have h3 : (fgt DT MO = true ∧ s = 1 ∧ ok = true) ∨ (fgt DT MO = false ∧ flt DT (fopp MO) = true ∧ s = -1 ∧ ok = true) ∨ (fgt DT MO = false ∧ flt DT (fopp MO) = false ∧ s = 0 ∧ ok = false) := by
   cases k1 : fgt DT MO
   ·cases k2 : flt DT (fopp MO)
    ·rw [k1,k2] at h; cases h; exact .inr (.inr ⟨rfl,rfl,rfl,rfl⟩)
    ·rw [k1,k2] at h; cases h; exact .inr (.inl ⟨rfl,rfl,rfl,rfl⟩)
   ·rw [k1] at h; cases h; exact .inl ⟨rfl,rfl,rfl⟩
  clear h
  rcases h3 with ⟨k1,rfl,rfl⟩ | ⟨k1,k2,rfl,rfl⟩ | ⟨k1,k2,rfl,rfl⟩
  all_goals
   go_enter Tryz.func110,Tryz.ntmps110
   go_wp2_with (first
    |(go_at_call 111; refine (HM.out _ _ (heap_new4 _ _ _ _ _ _)).mono ?_; rintro r w1 ⟨rfl,hb1⟩; obtain ⟨q1,q2,q3,q4,q5,q6,q7,q8⟩ := ((P8.made w ax ay bx bY cx cy dx dy 68).below ((Below.refl _ _).alloc (Nat.le_refl _) _)).below hb1))
   have n0 : w1.drew.cell? ⟨w.heap.size,0,none⟩ = some (.float .f64 ax) ∧ w1.drew.cell? ⟨w.heap.size,1,none⟩ = some (.float .f64 ay) ∧ w1.drew.cell? ⟨w.heap.size + 1,0,none⟩ = some (.float .f64 bx) ∧ w1.drew.cell? ⟨w.heap.size + 1,1,none⟩ = some (.float .f64 bY) ∧ w1.drew.cell? ⟨w.heap.size + 1 + 1,0,none⟩ = some (.float .f64 cx) ∧ w1.drew.cell? ⟨w.heap.size + 1 + 1,1,none⟩ = some (.float .f64 cy) ∧ w1.drew.cell? ⟨w.heap.size + 1 + 1 + 1,0,none⟩ = some (.float .f64 dx) ∧ w1.drew.cell? ⟨w.heap.size + 1 + 1 + 1,1,none⟩ = some (.float .f64 dy) := ⟨q1,q2,q3,q4,q5,q6,q7,q8⟩
   have hbw : Below w.heap.size w w1 := (((((Below.refl w.heap.size w).alloc (Nat.le_refl _) _).alloc (by simp) _).alloc (by simp <;> omega) _).alloc (by simp <;> omega) _).alloc (by simp <;> omega) _ |>.trans (hb1.mono (by simp <;> omega))
   have HBW := Lib.hid hbw
   clear hbw hb1 q1 q2 q3 q4 q5 q6 q7 q8
   rename (∀ (a : Act) (w : World),Code.wp _ _ _ a w → _) => hcA
   have HCA := Lib.hid (fun (_ : Unit) => hcA)
   clear hcA
   go_region_held3 (fun W => W.cell? ⟨w.heap.size,0,none⟩ = some (.float .f64 ax) ∧ W.cell? ⟨w.heap.size,1,none⟩ = some (.float .f64 ay) ∧ W.cell? ⟨w.heap.size + 1,0,none⟩ = some (.float .f64 bx) ∧ W.cell? ⟨w.heap.size + 1,1,none⟩ = some (.float .f64 bY) ∧ W.cell? ⟨w.heap.size + 1 + 1,0,none⟩ = some (.float .f64 cx) ∧ W.cell? ⟨w.heap.size + 1 + 1,1,none⟩ = some (.float .f64 cy) ∧ W.cell? ⟨w.heap.size + 1 + 1 + 1,0,none⟩ = some (.float .f64 dx) ∧ W.cell? ⟨w.heap.size + 1 + 1 + 1,1,none⟩ = some (.float .f64 dy)) (first | assumption | exact n0) (fail)
   have hcA := HCA.out ()
   clear n0
   go_wp2_with (go_at_call 130; (first | (with_reducible refine (HA.out _).mono ?_) | (with_reducible refine (HB.out _).mono ?_) | (with_reducible refine (HC.out _).mono ?_) | (with_reducible refine (HD.out _).mono ?_) | (with_reducible refine (HE.out _).mono ?_) | (with_reducible refine (HF.out _).mono ?_)); rintro e w2 ⟨rfl,rfl⟩)
   go_ret2
   exact ⟨rfl,HBW.out.drew⟩
end Go.Proofs.YtbagikgpgdlkcaaGreatDoor
