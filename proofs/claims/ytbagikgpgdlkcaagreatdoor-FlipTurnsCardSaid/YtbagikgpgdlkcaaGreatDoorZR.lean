/- Part of the proof. No conditions. -/
import Derived.Test.YtbagikgpgdlkcaaGreatDoorZB
import Derived.Test.YtbagikgpgdlkcaaGreatDoorZQ
set_option linter.all false
set_option maxHeartbeats 8000000
set_option maxRecDepth 100000
namespace Go.Proofs.YtbagikgpgdlkcaaGreatDoor
open Go.RowKit Tvf Go.Maps Go.WideMaps
def mayM (M : MeshM) (a b c d : Int) : Bool := !(M.fx (minI a b) (maxI a b)).isSome && (!(M.ap c d).isSome && (!(M.ap d c).isSome && (leftM M c d b && leftM M d c a)))
theorem new4 (w : World) (x y z u : Value) (T : TypeId) : (w.alloc (.cells #[x,y,z,u] T)).cell? ⟨w.heap.size,0,none⟩ = some x ∧ (w.alloc (.cells #[x,y,z,u] T)).cell? ⟨w.heap.size,1,none⟩ = some y ∧ (w.alloc (.cells #[x,y,z,u] T)).cell? ⟨w.heap.size,2,none⟩ = some z ∧ (w.alloc (.cells #[x,y,z,u] T)).cell? ⟨w.heap.size,3,none⟩ = some u :=
 ⟨by rw [World.cell?_alloc_at _ _ _ _ rfl]; rfl,by rw [World.cell?_alloc_at _ _ _ _ rfl]; rfl,by rw [World.cell?_alloc_at _ _ _ _ rfl]; rfl,by rw [World.cell?_alloc_at _ _ _ _ rfl]; rfl⟩
theorem may_walk4 {w : World} {mb n : Nat} {M : MeshM} {F : Nat → Prop} (h : MeshAt w mb n M F) (h64 : ∀ p,p ∈ M.P → pt64 p) {a b c d : Int} (ha : i64ok a) (hb : i64ok b) (hc : i64ok c) (hd : i64ok d) :
  Calls Tryz.prog 47 #[.pointer (some ⟨mb,0,none⟩),.agg #[.int .i64 a,.int .i64 b,.int .i64 c,.int .i64 d]] w fun r w' => r = .returned (.bool (mayM M a b c d)) ∧ Below w.heap.size w w' := by
 obtain ⟨W0,hW0⟩ : ∃ W0 : World,W0 = w.alloc (.cells #[.int .i64 a,.int .i64 b,.int .i64 c,.int .i64 d] 84) := ⟨_,rfl⟩
 have hb0 : Below w.heap.size w W0 := by rw [hW0]; exact (Below.refl _ _).alloc (Nat.le_refl _) _
 have hcell : ∀ W,Below W0.heap.size W0 W → W.cell? ⟨w.heap.size,0,none⟩ = some (.int .i64 a) ∧ W.cell? ⟨w.heap.size,1,none⟩ = some (.int .i64 b) ∧ W.cell? ⟨w.heap.size,2,none⟩ = some (.int .i64 c) ∧ W.cell? ⟨w.heap.size,3,none⟩ = some (.int .i64 d) := by
  intro W hbW
  have := new4 w (.int .i64 a) (.int .i64 b) (.int .i64 c) (.int .i64 d) 84
  rw [← hW0] at this
  exact ⟨cell_keep this.1 hbW,cell_keep this.2.1 hbW,cell_keep this.2.2.1 hbW,cell_keep this.2.2.2 hbW⟩
 have h0 := h.below hb0
 have HF : Hid (Calls Tryz.prog 15 #[.pointer (some ⟨mb,0,none⟩),.int .i64 a,.int .i64 b] W0 fun r W' => r = .returned (.tuple #[.int .i64 ((M.fx (minI a b) (maxI a b)).getD 0),.bool (M.fx (minI a b) (maxI a b)).isSome]) ∧ Hid (Below W0.heap.size W0 W') ∧ W'.cell? ⟨w.heap.size,0,none⟩ = some (.int .i64 a) ∧ W'.cell? ⟨w.heap.size,1,none⟩ = some (.int .i64 b) ∧ W'.cell? ⟨w.heap.size,2,none⟩ = some (.int .i64 c) ∧ W'.cell? ⟨w.heap.size,3,none⟩ = some (.int .i64 d)) := by
  refine (fixed_walk h0 ha hb).mono ?_
  rintro r W' ⟨rfl,hbW⟩
  exact ⟨rfl,hbW,hcell W' hbW⟩
 have HX : Hid (∀ W,Hid (Below W0.heap.size W0 W) → Calls Tryz.prog 12 #[.pointer (some ⟨mb,0,none⟩),.int .i64 c,.int .i64 d] W fun r W' => r = .returned (.tuple #[.int .i64 ((M.ap c d).getD 0),.bool (M.ap c d).isSome]) ∧ W' = W) :=
  fun W hbW => apex_walk (h0.below hbW.out) hc hd
 have HY : Hid (∀ W,Hid (Below W0.heap.size W0 W) → Calls Tryz.prog 12 #[.pointer (some ⟨mb,0,none⟩),.int .i64 d,.int .i64 c] W fun r W' => r = .returned (.tuple #[.int .i64 ((M.ap d c).getD 0),.bool (M.ap d c).isSome]) ∧ W' = W) :=
  fun W hbW => apex_walk (h0.below hbW.out) hd hc
 have HL : Hid (∀ i j k W,Hid (Below W0.heap.size W0 W) → Calls Tryz.prog 87 #[.pointer (some ⟨mb,0,none⟩),.int .i64 i,.int .i64 j,.int .i64 k] W fun r W' => r = .returned (.bool (leftM M i j k)) ∧ Hid (Below W0.heap.size W0 W') ∧ W'.cell? ⟨w.heap.size,0,none⟩ = some (.int .i64 a) ∧ W'.cell? ⟨w.heap.size,1,none⟩ = some (.int .i64 b) ∧ W'.cell? ⟨w.heap.size,2,none⟩ = some (.int .i64 c) ∧ W'.cell? ⟨w.heap.size,3,none⟩ = some (.int .i64 d)) := by
  intro i j k W hbW
  refine (left_walk (h0.below hbW.out) h64 i j k).mono ?_
  rintro r W' ⟨rfl,hb'⟩
  have := hbW.out.trans (hb'.mono hbW.out.size)
  exact ⟨rfl,this,hcell W' this⟩
 have HB0 := Lib.hid hb0
 have HW0 := Lib.hid hW0
 have HC0 := Lib.hid (hcell W0 (Below.refl _ _))
 have HL1 := Lib.hid (fun W hb => HL.out c d b W hb)
 have HL2 := Lib.hid (fun W hb => HL.out d c a W hb)
 clear HL
 unfold mayM
 generalize (M.fx (minI a b) (maxI a b)).getD 0 = gf at *
 generalize (M.ap c d).getD 0 = gc at *
 generalize (M.ap d c).getD 0 = gd at *
 generalize (M.fx (minI a b) (maxI a b)).isSome = f at *
 generalize (M.ap c d).isSome = t at *
 generalize (M.ap d c).isSome = u at *
 generalize leftM M c d b = l1 at *
 generalize leftM M d c a = l2 at *
 clear h h0 ha hb hc hd hb0 hW0 hcell h64
 have h6 : (f = true) ∨ (f = false ∧ t = true) ∨ (f = false ∧ t = false ∧ u = true) ∨ (f = false ∧ t = false ∧ u = false ∧ l1 = false) ∨ (f = false ∧ t = false ∧ u = false ∧ l1 = true) := by
  cases f <;> cases t <;> cases u <;> cases l1 <;> simp
 rcases h6 with rfl | ⟨rfl,rfl⟩ | ⟨rfl,rfl,rfl⟩ | ⟨rfl,rfl,rfl,rfl⟩ | ⟨rfl,rfl,rfl,rfl⟩
 all_goals
  go_enter Tryz.func47,Tryz.ntmps47
  go_wp2_with (first
   |(go_at_call 15; rw [← HW0.out]; with_reducible refine HF.out.mono ?_; rintro r w1 ⟨rfl,B1,q1,q2,q3,q4⟩)
   |(go_at_call 12; with_reducible refine (HX.out _ B1).mono ?_; rintro r w2 ⟨rfl,rfl⟩)
   |(go_at_call 12; with_reducible refine (HY.out _ B1).mono ?_; rintro r w3 ⟨rfl,rfl⟩)
   |(go_at_call 87; with_reducible refine (HL1.out _ B1).mono ?_; rintro r w4 ⟨rfl,B4,q5,q6,q7,q8⟩)
   |(go_at_call 87; with_reducible refine (HL2.out _ B4).mono ?_; rintro r w5 ⟨rfl,B5,q9,qa,qb,qc⟩))
  go_ret
  first
   | exact ⟨rfl,HB0.out.trans (B5.out.mono HB0.out.size)⟩
   | exact ⟨rfl,HB0.out.trans (B4.out.mono HB0.out.size)⟩
   | exact ⟨rfl,HB0.out.trans (B1.out.mono HB0.out.size)⟩
def apD (M : MeshM) (a b : Int) : Int := (M.ap a b).getD 0
theorem apD_ok {M : MeshM} (h : Sound M) (hl : M.P.length ≤ 1048576) (a b : Int) : i64ok (apD M a b) := by
 unfold apD
 cases e : M.ap a b with
 | none => unfold i64ok; simp
 | some c => exact (h.i64 hl e).2.2
def mayB (M : MeshM) (a b : Int) : Bool := mayM M a b (apD M a b) (apD M b a)
theorem fmay_walk {w : World} {mb n : Nat} {M : MeshM} {F : Nat → Prop} (h : MeshAt w mb n M F) (h64 : ∀ p,p ∈ M.P → pt64 p) (hs : Sound M) (hl : M.P.length ≤ 1048576) {a b : Int} (ha : i64ok a) (hb : i64ok b) :
  Calls Tryz.prog 19 #[.pointer (some ⟨mb,0,none⟩),.int .i64 a,.int .i64 b] w fun r w' => r = .returned (.bool (shB M a b && mayB M a b)) ∧ Below w.heap.size w w' := by
 have HS := Lib.hid (shared_walk h ha hb)
 have HM := Lib.hid (fun W (hb' : Below w.heap.size w W) => may_walk4 (h.below hb') h64 ha hb (apD_ok hs hl a b) (apD_ok hs hl b a))
 unfold mayB
 unfold apD at *
 generalize mayM M a b ((M.ap a b).getD 0) ((M.ap b a).getD 0) = q at *
 generalize (M.ap a b).getD 0 = c at *
 generalize (M.ap b a).getD 0 = d at *
 clear h h64 hs hl ha hb
 generalize shB M a b = s at *
 cases s
 all_goals
  go_enter Tryz.func19,Tryz.ntmps19
  go_wp2_with (first
   |(go_at_call 46; with_reducible refine HS.out.mono ?_; rintro r w1 ⟨rfl,b1⟩)
   |(go_at_call 47; with_reducible refine (HM.out _ (b1.alloc b1.size _)).mono ?_; rintro r w2 ⟨rfl,hb2⟩))
  go_ret
  first
   | exact ⟨rfl,(b1.alloc b1.size _).trans (hb2.mono (Nat.le_trans b1.size (by simp)))⟩
   | exact ⟨rfl,b1.alloc b1.size _⟩
theorem del_no {w : World} {mb n : Nat} {M : MeshM} {F : Nat → Prop} (h : MeshAt w mb n M F) (h64 : ∀ p,p ∈ M.P → pt64 p) (hs : Sound M) (hl : M.P.length ≤ 1048576) {a b : Int} (ha : i64ok a) (hb : i64ok b) (hq : (shB M a b && mayB M a b) = false) :
  Calls Tryz.prog 17 #[.pointer (some ⟨mb,0,none⟩),.int .i64 a,.int .i64 b] w fun r w' => r = .returned (.bool true) ∧ Below w.heap.size w w' := by
 have HS := Lib.hid (shared_walk h ha hb)
 have HM := Lib.hid (fun W (hb' : Below w.heap.size w W) => may_walk4 (h.below hb') h64 ha hb (apD_ok hs hl a b) (apD_ok hs hl b a))
 unfold mayB at hq
 unfold apD at *
 generalize mayM M a b ((M.ap a b).getD 0) ((M.ap b a).getD 0) = q at *
 generalize (M.ap a b).getD 0 = c at *
 generalize (M.ap b a).getD 0 = d at *
 clear h h64 hs hl ha hb
 generalize shB M a b = s at *
 have h2 : s = false ∨ (s = true ∧ q = false) := by cases s <;> cases q <;> simp at hq ⊢
 clear hq
 rcases h2 with rfl | ⟨rfl,rfl⟩
 all_goals
  go_enter Tryz.func17,Tryz.ntmps17
  go_wp2_with (first
   |(go_at_call 46; with_reducible refine HS.out.mono ?_; rintro r w1 ⟨rfl,b1⟩)
   |(go_at_call 47; with_reducible refine (HM.out _ (b1.alloc b1.size _)).mono ?_; rintro r w2 ⟨rfl,hb2⟩))
  go_ret
  first
   | exact ⟨rfl,(b1.alloc b1.size _).trans (hb2.mono (Nat.le_trans b1.size (by simp)))⟩
   | exact ⟨rfl,b1.alloc b1.size _⟩
theorem del_yes {w : World} {mb n : Nat} {M : MeshM} {F : Nat → Prop} (h : MeshAt w mb n M F) (h64 : ∀ p,p ∈ M.P → pt64 p) (hs : Sound M) (hl : M.P.length ≤ 1048576) {a b : Int} (ha : i64ok a) (hb : i64ok b) (hq1 : shB M a b = true) (hq2 : mayB M a b = true) (v : Bool)
  (hW : ∀ w,Calls Tryz.prog 50 #[V (ptAt M a),V (ptAt M b),V (ptAt M (apD M a b)),V (ptAt M (apD M b a))] w fun r w' => r = .returned (.bool v) ∧ Below w.heap.size w w') :
  Calls Tryz.prog 17 #[.pointer (some ⟨mb,0,none⟩),.int .i64 a,.int .i64 b] w fun r w' => r = .returned (.bool (!v)) ∧ Below w.heap.size w w' := by
 have HS := Lib.hid (shared_walk h ha hb)
 have HM := Lib.hid (fun W (hb' : Below w.heap.size w W) => may_walk4 (h.below hb') h64 ha hb (apD_ok hs hl a b) (apD_ok hs hl b a))
 have HP := Lib.hid (fun i W (hb' : Below w.heap.size w W) => point_walk (h.below hb') i)
 have HPA := Lib.hid (fun W hb => HP.out a W hb)
 have HPB := Lib.hid (fun W hb => HP.out b W hb)
 have HPC := Lib.hid (fun W hb => HP.out (apD M a b) W hb)
 have HPD := Lib.hid (fun W hb => HP.out (apD M b a) W hb)
 clear HP
 have HW := Lib.hid hW
 unfold V at HW
 unfold mayB at hq2
 unfold apD at *
 rw [hq1] at HS
 rw [hq2] at HM
 clear hq1 hq2 hW
 generalize (M.ap a b).getD 0 = c at *
 generalize (M.ap b a).getD 0 = d at *
 generalize ptAt M a = pa at *
 generalize ptAt M b = pb at *
 generalize ptAt M c = pc at *
 generalize ptAt M d = pd at *
 generalize hasM M a = ka at *
 generalize hasM M b = kb at *
 generalize hasM M c = kc at *
 generalize hasM M d = kd at *
 clear h h64 hs hl ha hb
 cases v
 all_goals
  go_enter Tryz.func17,Tryz.ntmps17
  go_wp2_with (first
   |(go_at_call 46; with_reducible refine HS.out.mono ?_; rintro r w1 ⟨rfl,b1⟩; have c1 := b1.alloc b1.size (.cells #[.int .i64 a,.int .i64 b,.int .i64 c,.int .i64 d] 84))
   |(go_at_call 47; with_reducible refine (HM.out _ c1).mono ?_; rintro r w2 ⟨rfl,hb2⟩; have b2 := c1.trans (hb2.mono c1.size); obtain ⟨i0,i1,i2,i3⟩ := new4 w1 (.int .i64 a) (.int .i64 b) (.int .i64 c) (.int .i64 d) 84; have j0 := cell_keep i0 hb2; have j1 := cell_keep i1 hb2; have j2 := cell_keep i2 hb2; have j3 := cell_keep i3 hb2; clear i0 i1 i2 i3 hb2)
   |(go_at_call 49; with_reducible refine (HPA.out w2 b2).mono ?_; rintro r w3 ⟨rfl,hb3⟩; have b3 := b2.trans (hb3.mono b2.size); have c3 := b3.alloc b3.size (.cells #[.float .f64 pa.1,.float .f64 pa.2] 68); have l1 := cell_al (cell_keep j1 hb3); have l2 := cell_al (cell_keep j2 hb3); have l3 := cell_al (cell_keep j3 hb3); clear j0 j1 j2 j3 hb3)
   |(go_at_call 49; with_reducible refine (HPB.out _ c3).mono ?_; rintro r w4 ⟨rfl,hb4⟩; have b4 := c3.trans (hb4.mono c3.size); have c4 := b4.alloc b4.size (.cells #[.float .f64 pb.1,.float .f64 pb.2] 68); have m2 := cell_al (cell_keep (l2 _) hb4); have m3 := cell_al (cell_keep (l3 _) hb4); have p1 := cell_al (cell_keep (new2 w3 (.float .f64 pa.1) (.float .f64 pa.2) 68).1 hb4); have p2 := cell_al (cell_keep (new2 w3 (.float .f64 pa.1) (.float .f64 pa.2) 68).2 hb4); clear l1 l2 l3 hb4)
   |(go_at_call 49; with_reducible refine (HPC.out _ c4).mono ?_; rintro r w5 ⟨rfl,hb5⟩; have b5 := c4.trans (hb5.mono c4.size); have c5 := b5.alloc b5.size (.cells #[.float .f64 pc.1,.float .f64 pc.2] 68); have n3 := cell_al (cell_keep (m3 _) hb5); have p3 := cell_al (cell_keep (p1 _) hb5); have p4 := cell_al (cell_keep (p2 _) hb5); have p5 := cell_al (cell_keep (new2 w4 (.float .f64 pb.1) (.float .f64 pb.2) 68).1 hb5); have p6 := cell_al (cell_keep (new2 w4 (.float .f64 pb.1) (.float .f64 pb.2) 68).2 hb5); clear m2 m3 hb5 p1 p2)
   |(go_at_call 49; with_reducible refine (HPD.out _ c5).mono ?_; rintro r w6 ⟨rfl,hb6⟩; have b6 := c5.trans (hb6.mono c5.size); have r1 := cell_al (cell_keep (p3 _) hb6); have r2 := cell_al (cell_keep (p4 _) hb6); have r3 := cell_al (cell_keep (p5 _) hb6); have r4 := cell_al (cell_keep (p6 _) hb6); have r5 := cell_al (cell_keep (new2 w5 (.float .f64 pc.1) (.float .f64 pc.2) 68).1 hb6); have r6 := cell_al (cell_keep (new2 w5 (.float .f64 pc.1) (.float .f64 pc.2) 68).2 hb6); clear n3 p3 p4 p5 p6 hb6)
   |(go_at_call 50; with_reducible refine (HW.out _).mono ?_; rintro r w7 ⟨rfl,hb7⟩))
  go_ret
  exact ⟨rfl,(b6.alloc b6.size _).trans (hb7.mono (Nat.le_trans b6.size (by simp)))⟩
def turnR (M : MeshM) (a b : Int) : MeshM := makeR (makeR (killR (killR M a b (apD M a b)) b a (apD M b a)) (apD M b a) b (apD M a b)) a (apD M b a) (apD M a b)
theorem turnR_P (M : MeshM) (a b : Int) : (turnR M a b).P = M.P := by unfold turnR; rw [makeR_P,makeR_P,killR_P,killR_P]
theorem turnR_sound {M : MeshM} (h : Sound M) (a b : Int) : Sound (turnR M a b) := makeR_sound (makeR_sound (killR_sound (killR_sound h _ _ _) _ _ _) _ _ _) _ _ _
theorem turn_none {w : World} {mb n : Nat} {M : MeshM} {F : Nat → Prop} (h : MeshAt w mb n M F) {a b : Int} (ha : i64ok a) (hb : i64ok b) (hq : shB M a b = false) :
  Calls Tryz.prog 13 #[.pointer (some ⟨mb,0,none⟩),.int .i64 a,.int .i64 b] w fun r w' => r = .returned (.int .i64 5) ∧ Below w.heap.size w w' := by
 have HS := Lib.hid (shared_walk h ha hb)
 rw [hq] at HS
 generalize (M.ap a b).getD 0 = c at *
 generalize (M.ap b a).getD 0 = d at *
 clear h ha hb hq
 go_enter Tryz.func13,Tryz.ntmps13
 go_wp2_with (go_at_call 46; with_reducible refine HS.out.mono ?_; rintro r w1 ⟨rfl,b1⟩)
 go_ret
 exact ⟨rfl,b1.alloc b1.size _⟩
theorem turn_no {w : World} {mb n : Nat} {M : MeshM} {F : Nat → Prop} (h : MeshAt w mb n M F) (h64 : ∀ p,p ∈ M.P → pt64 p) (hs : Sound M) (hl : M.P.length ≤ 1048576) {a b : Int} (ha : i64ok a) (hb : i64ok b) (hq1 : shB M a b = true) (hq2 : mayB M a b = false) :
  Calls Tryz.prog 13 #[.pointer (some ⟨mb,0,none⟩),.int .i64 a,.int .i64 b] w fun r w' => r = .returned (.int .i64 14) ∧ Below w.heap.size w w' := by
 have HS := Lib.hid (shared_walk h ha hb)
 have HM := Lib.hid (fun W (hb' : Below w.heap.size w W) => may_walk4 (h.below hb') h64 ha hb (apD_ok hs hl a b) (apD_ok hs hl b a))
 unfold mayB at hq2
 unfold apD at *
 rw [hq1] at HS
 rw [hq2] at HM
 clear hq1 hq2
 generalize (M.ap a b).getD 0 = c at *
 generalize (M.ap b a).getD 0 = d at *
 clear h h64 hs hl ha hb
 go_enter Tryz.func13,Tryz.ntmps13
 go_wp2_with (first
  |(go_at_call 46; with_reducible refine HS.out.mono ?_; rintro r w1 ⟨rfl,b1⟩)
  |(go_at_call 47; with_reducible refine (HM.out _ (b1.alloc b1.size _)).mono ?_; rintro r w2 ⟨rfl,hb2⟩))
 go_ret
 exact ⟨rfl,(b1.alloc b1.size _).trans (hb2.mono (Nat.le_trans b1.size (by simp)))⟩
structure PairSt (w0 wS W : World) (F0 : Nat → Prop) (mb n : Nat) (M : MeshM) (F : Nat → Prop) (P : Nat) (a b c d : Int) : Prop where
 m : MB w0 W mb n M F
 st : Stay F0 wS W
 sub : ∀ i,F i → F0 i ∨ wS.heap.size ≤ i
 lt : P < W.heap.size
 off : ¬F P
 q0 : W.cell? ⟨P,0,none⟩ = some (.int .i64 a)
 q1 : W.cell? ⟨P,1,none⟩ = some (.int .i64 b)
 q2 : W.cell? ⟨P,2,none⟩ = some (.int .i64 c)
 q3 : W.cell? ⟨P,3,none⟩ = some (.int .i64 d)
theorem PairSt.step {w0 wS W W' : World} {F0 : Nat → Prop} {mb n n' : Nat} {M M' : MeshM} {F : Nat → Prop} {P : Nat} {a b c d : Int} (h : PairSt w0 wS W F0 mb n M F P a b c d) (hm : MB w0 W' mb n' M' (Fx F W W')) (hs : Stay F W W') : PairSt w0 wS W' F0 mb n' M' (Fx F W W') P a b c d := by
 have hc : ∀ i,W'.cell? ⟨P,i,none⟩ = W.cell? ⟨P,i,none⟩ := fun i => World.cell?_of_block (hs.block P h.lt h.off)
 exact ⟨hm,h.st.trans (hs.mono h.sub),fun i e => e.elim (h.sub i) (fun e => .inr (Nat.le_trans h.st.size e.1)),Nat.lt_of_lt_of_le h.lt hs.size,fun e => e.elim h.off (fun e => by have := h.lt; omega),(hc 0).trans h.q0,(hc 1).trans h.q1,(hc 2).trans h.q2,(hc 3).trans h.q3⟩
theorem pair_new {w0 w w1 w2 : World} {mb n : Nat} {M : MeshM} {F : Nat → Prop} {a b c d : Int} (h : MB w0 w mb n M F) (b1 : Below w.heap.size w w1)
  (hb2 : Below (w1.alloc (.cells #[.int .i64 a,.int .i64 b,.int .i64 c,.int .i64 d] 84)).heap.size (w1.alloc (.cells #[.int .i64 a,.int .i64 b,.int .i64 c,.int .i64 d] 84)) w2) : PairSt w0 w w2 F mb n M F w1.heap.size a b c d := by
 obtain ⟨i0,i1,i2,i3⟩ := new4 w1 (.int .i64 a) (.int .i64 b) (.int .i64 c) (.int .i64 d) 84
 have c1 := b1.alloc b1.size (.cells #[.int .i64 a,.int .i64 b,.int .i64 c,.int .i64 d] 84)
 exact ⟨h.below (c1.trans (hb2.mono c1.size)),Stay.of_below (c1.trans (hb2.mono c1.size)),fun i e => .inl e,Nat.lt_of_lt_of_le (by simp) hb2.size,fun e => by have := h.at_.flt _ e; have := b1.size; omega,cell_keep i0 hb2,cell_keep i1 hb2,cell_keep i2 hb2,cell_keep i3 hb2⟩
theorem turn_ok {w0 w : World} {mb n : Nat} {M : MeshM} {F : Nat → Prop} (h : MB w0 w mb n M F) (h64 : ∀ p,p ∈ M.P → pt64 p) (hs : Sound M) (hl : M.P.length ≤ 1048576) (hn : n ≤ 100000000) {a b : Int} (ha : i64ok a) (hb : i64ok b) (hq1 : shB M a b = true) (hq2 : mayB M a b = true) :
  Calls Tryz.prog 13 #[.pointer (some ⟨mb,0,none⟩),.int .i64 a,.int .i64 b] w fun r w' => r = .returned (.int .i64 0) ∧ ∃ G,MB w0 w' mb (n + 12) (turnR M a b) G ∧ Stay F w w' ∧ ∀ i,G i → F i ∨ w.heap.size ≤ i := by
 have HS := Lib.hid (shared_walk h.at_ ha hb)
 have HM := Lib.hid (fun W (hb' : Below w.heap.size w W) => may_walk4 (h.at_.below hb') h64 ha hb (apD_ok hs hl a b) (apD_ok hs hl b a))
 have hcd : i64ok (apD M a b) ∧ i64ok (apD M b a) := ⟨apD_ok hs hl a b,apD_ok hs hl b a⟩
 unfold mayB at hq2
 unfold turnR
 have HKL : Hid (∀ W P k N G x y z c d,PairSt w0 w W F mb k N G P a b c d → k ≤ 200000000 → i64ok x → i64ok y → i64ok z → Calls Tryz.prog 35 #[.pointer (some ⟨mb,0,none⟩),.int .i64 x,.int .i64 y,.int .i64 z] W fun r W' => (∃ v,r = .returned (.int .i64 v)) ∧ ∃ G', PairSt w0 w W' F mb (k + 3) (killR N x y z) G' P a b c d) := by
  intro W P k N G x y z c d hp hk hx hy hz
  refine (kill_mb hp.m (by omega) hx hy hz).mono ?_
  rintro r W' ⟨rfl,hm,hst⟩
  exact ⟨⟨_,rfl⟩,_,hp.step hm hst⟩
 have HMK : Hid (∀ W P k N G x y z c d,PairSt w0 w W F mb k N G P a b c d → k ≤ 200000000 → N.P = M.P → Calls Tryz.prog 34 #[.pointer (some ⟨mb,0,none⟩),.int .i64 x,.int .i64 y,.int .i64 z] W fun r W' => (∃ v,r = .returned (.int .i64 v)) ∧ ∃ G', PairSt w0 w W' F mb (k + 3) (makeR N x y z) G' P a b c d) := by
  intro W P k N G x y z c d hp hk hN
  refine (make_mb hp.m (by rw [hN]; exact h64) (by rw [hN]; exact hl) (by omega) x y z).mono ?_
  rintro r W' ⟨rfl,hm,hst⟩
  exact ⟨⟨_,rfl⟩,_,hp.step hm hst⟩
 have HMB := Lib.hid h
 have HNN := Lib.hid hn
 have HAB : Hid (i64ok a ∧ i64ok b) := ⟨ha,hb⟩
 have HCD := Lib.hid hcd
 change Hid (Calls _ _ _ _ fun r w' => r = .returned (.tuple #[.agg #[.int .i64 a,.int .i64 b,.int .i64 (apD M a b),.int .i64 (apD M b a)],.bool (shB M a b)]) ∧ Below w.heap.size w w') at HS
 rw [hq1] at HS
 rw [hq2] at HM
 clear hq1 hq2 h h64 hs hl hn ha hb hcd
 generalize apD M a b = c at *
 generalize apD M b a = d at *
 go_enter Tryz.func13,Tryz.ntmps13
 go_wp2_with (first
  |(go_at_call 46; with_reducible refine HS.out.mono ?_; rintro r w1 ⟨rfl,b1⟩; have c1 := b1.alloc b1.size (.cells #[.int .i64 a,.int .i64 b,.int .i64 c,.int .i64 d] 84))
  |(go_at_call 47; with_reducible refine (HM.out _ c1).mono ?_; rintro r w2 ⟨rfl,hb2⟩; have HP2 := Lib.hid (pair_new HMB.out b1 hb2); have n0 := HP2.out.q0; have n1 := HP2.out.q1; have n2 := HP2.out.q2; have n3 := HP2.out.q3; clear hb2 c1)
  |(go_at_call 35; with_reducible refine (HKL.out _ _ _ _ _ _ _ _ _ _ HP2.out (by have := HNN.out; omega) HAB.out.1 HAB.out.2 HCD.out.1).mono ?_; rintro r w3 ⟨⟨v3,rfl⟩,G3,hp3⟩; have HP3 := Lib.hid hp3; clear n0 n1 n2 n3 hp3 HP2; have n0 := HP3.out.q0; have n1 := HP3.out.q1; have n2 := HP3.out.q2; have n3 := HP3.out.q3)
  |(go_at_call 35; with_reducible refine (HKL.out _ _ _ _ _ _ _ _ _ _ HP3.out (by have := HNN.out; omega) HAB.out.2 HAB.out.1 HCD.out.2).mono ?_; rintro r w4 ⟨⟨v4,rfl⟩,G4,hp4⟩; have HP4 := Lib.hid hp4; clear n0 n1 n2 n3 hp4 HP3; have n0 := HP4.out.q0; have n1 := HP4.out.q1; have n2 := HP4.out.q2; have n3 := HP4.out.q3)
  |(go_at_call 34; with_reducible refine (HMK.out _ _ _ _ _ _ _ _ _ _ HP4.out (by have := HNN.out; omega) (by rw [killR_P,killR_P])).mono ?_; rintro r w5 ⟨⟨v5,rfl⟩,G5,hp5⟩; have HP5 := Lib.hid hp5; clear n0 n1 n2 n3 hp5 HP4; have n0 := HP5.out.q0; have n1 := HP5.out.q1; have n2 := HP5.out.q2; have n3 := HP5.out.q3)
  |(go_at_call 34; with_reducible refine (HMK.out _ _ _ _ _ _ _ _ _ _ HP5.out (by have := HNN.out; omega) (by rw [makeR_P,killR_P,killR_P])).mono ?_; rintro r w6 ⟨⟨v6,rfl⟩,G6,hp6⟩; have HP6 := Lib.hid hp6; clear n0 n1 n2 n3 hp6 HP5))
 go_ret
 exact ⟨rfl,G6,HP6.out.m,HP6.out.st,HP6.out.sub⟩
theorem cellsP2_one (l : List (Int × Int)) : ∀ u ∈ cellsK encP l,u.oneCell' = true := by
 intro u hu
 unfold cellsK at hu
 obtain ⟨p,_,hp⟩ := List.mem_flatMap.1 hu
 exact encP_one p u hp
theorem cellsP2_len (l : List (Int × Int)) : (cellsK encP l).length = l.length * 2 := cellsK_len encP_len l
theorem cloneP_nil (cap : Nat) (w : World) :
  Calls Tryz.prog 95 #[.slice none 0 cap] w fun e w' => e = .returned (.slice none 0 0) ∧ w' = w := by
 have q22 : ∀ (w : World) (a : Option Addr) (n c n' c' : Nat),(binOp .eql 38 (.slice a n c) (.slice none n' c')).run Tryz.prog w = .ok (.bool a.isNone) w := fun w a n c n' c' => Lib.run_eql_slice_nil w _ _ a n c n' c' Tryz.underlying38
 go_enter Tryz.func95,Tryz.ntmps95
 go_wp2
 go_ret
 exact ⟨rfl,rfl⟩
theorem cloneP_some (l : List (Int × Int)) (a : Addr) (cap : Nat) (hl : l.length ≤ 2000000000) (w : World) (hc : ∀ j u,(cellsK encP l)[j]? = some u → w.cell? (a.add j) = some u) :
  Calls Tryz.prog 95 #[.slice (some a) l.length cap] w fun e w' => ∃ v', e = .returned v' ∧ w'.ownsRow w.heap.size 42 2 v' l.length (cellsK encP l) ∧ Below w.heap.size w w' := by
 obtain ⟨i0,hi,hz0,hz1,hz2⟩ := info_parts infoPair
 have HC := Lib.hid hc
 clear hc
 have h1 := Lib.hid (cellsP2_one l)
 have hlen := Lib.hid (cellsP2_len l)
 have q22 : ∀ (w : World) (a : Option Addr) (n c n' c' : Nat),(binOp .eql 38 (.slice a n c) (.slice none n' c')).run Tryz.prog w = .ok (.bool a.isNone) w := fun w a n c n' c' => Lib.run_eql_slice_nil w _ _ a n c n' c' Tryz.underlying38
 go_enter Tryz.func95,Tryz.ntmps95
 go_wp2_with (at_builtin; refine wpList_append_own _ rfl _ _ 38 rfl w.heap.size 42 i0 (.agg #[.int .i64 0,.int .i64 0]) 2 16 Tryz.underlying38 hi hz0 hz1 hz2 rfl (by decide) _ _ _ rfl (World.ownsRow_made w #[] 0 (Nat.le_refl _) (Nat.zero_le _) (by simp)) a l.length cap (cellsK encP l) rfl ?qc1 ?qc2 ?qc3 ?qc4 ?qc5 ?qc6 ?_)
 case qc1 => exact hlen.out
 case qc2 => intro j u hj; exact Lib.cell?_alloc_some _ (HC.out j u hj)
 case qc3 => exact h1.out
 case qc4 => unfold maxLen; omega
 case qc5 => omega
 case qc6 => simp
 intro v' w1 hown hgrow hnil
 go_wp2
 go_ret
 refine ⟨v', rfl,by simpa using hown,((Below.refl _ w).alloc (Nat.le_refl _) _).grown hgrow (by simp) (by intro k hk; simp [Value.ownBlock] at hk; omega)⟩
theorem cloneP_walk {w : World} {l : List (Int × Int)} {ad : Option Addr} {cap : Nat} (h : KCells encP w ad l) (hn : ad = none → l.length = 0) (hl : l.length ≤ 2000000000) :
  Calls Tryz.prog 95 #[.slice ad l.length cap] w fun e w' => ∃ v', e = .returned v' ∧ w'.ownsRow w.heap.size 42 2 v' l.length (cellsK encP l) ∧ Below w.heap.size w w' := by
 cases ad with
 | none =>
  have h0 := hn rfl
  have : l = [] := List.length_eq_zero_iff.1 h0
  subst this
  refine (cloneP_nil cap w).mono ?_
  rintro r w' ⟨rfl,rfl⟩
  exact ⟨_,rfl,World.ownsRow_nil _ _ _ _,Below.refl _ _⟩
 | some a =>
  refine cloneP_some l a cap hl w ?_
  intro j u hu
  have hj : 0 < l.length := by
   have := (List.getElem?_eq_some_iff.1 hu).1
   rw [cellsP2_len] at this
   omega
  obtain ⟨g,e,_,hcc⟩ := h hj
  cases e
  rw [Addr.add_lit,Nat.zero_add]
  exact hcc j u hu
theorem below_off {w w' : World} {o : Obj} (h : Below (w.alloc o).heap.size (w.alloc o) w') : Below w.heap.size w w' :=
 ((Below.refl w.heap.size w).alloc (Nat.le_refl _) o).trans (h.mono (by simp))
end Go.Proofs.YtbagikgpgdlkcaaGreatDoor
