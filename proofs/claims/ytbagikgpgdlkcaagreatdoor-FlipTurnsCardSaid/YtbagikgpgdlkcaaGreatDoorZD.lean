/- Part of the proof. No conditions. -/
import Derived.Test.YtbagikgpgdlkcaaGreatDoorZC
set_option linter.all false
set_option maxHeartbeats 8000000
set_option maxRecDepth 100000
namespace Go.Proofs.YtbagikgpgdlkcaaGreatDoor
open Go.RowKit Tvf
theorem gridReady (k : Nat) (m16 m17 m18 : Bool) (hk : k ≤ 3) {ops : Array Oper} (h : (List.range 4).all (fun k => [false,true].all fun a => [false,true].all fun b => [false,true].all fun c => (k == 3 && a && b && c) || Region.ready .any ops (gridL k a b c) == gridR k a b c) = true) :
  (k = 3 ∧ m16 = true ∧ m17 = true ∧ m18 = true) ∨ Region.ready .any ops (gridL k m16 m17 m18) = gridR k m16 m17 m18 := by
 have h1 := List.all_eq_true.1 h k (List.mem_range.2 (by omega))
 have h2 := List.all_eq_true.1 h1 m16 (by cases m16 <;> simp)
 have h3 := List.all_eq_true.1 h2 m17 (by cases m17 <;> simp)
 have h4 := List.all_eq_true.1 h3 m18 (by cases m18 <;> simp)
 rw [Bool.or_eq_true,Bool.and_eq_true,Bool.and_eq_true,Bool.and_eq_true,beq_iff_eq,beq_iff_eq] at h4
 rcases h4 with ⟨⟨⟨h5,h6⟩,h7⟩,h8⟩ | h5
 ·exact .inl ⟨h5,h6,h7,h8⟩
 ·exact .inr h5
def rowSet (w : World) (b : Nat) (x y z : Value) : World := ((w.setCell ⟨b,0,none⟩ x).setCell ⟨b,1,none⟩ y).setCell ⟨b,2,none⟩ z
theorem rowSet_far {w : World} {b i : Nat} {x y z : Value} (h : i ≠ b) : (rowSet w b x y z).heap[i]? = w.heap[i]? := by
 unfold rowSet
 rw [heap_setCell_far (by exact fun e => h e.symm),heap_setCell_far (by exact fun e => h e.symm),heap_setCell_far (by exact fun e => h e.symm)]
theorem nil_cells {w : World} {b : Nat} (h : w.heap[b]? = some nilRow) : w.cell? ⟨b,0,none⟩ = some (.slice none 0 0) ∧ w.cell? ⟨b,1,none⟩ = some (.slice none 0 0) ∧ w.cell? ⟨b,2,none⟩ = some (.slice none 0 0) ∧
  w.frozen? ⟨b,0,none⟩ = false ∧ w.frozen? ⟨b,1,none⟩ = false ∧ w.frozen? ⟨b,2,none⟩ = false := by
 unfold nilRow at h
 refine ⟨?_,?_,?_,?_,?_,?_⟩
 all_goals first | simp [World.cell?,h] | simp [World.frozen?,h]
theorem rowSet_cells {w : World} {b : Nat} {x y z : Value} (h : w.heap[b]? = some nilRow) : (rowSet w b x y z).cell? ⟨b,0,none⟩ = some x ∧ (rowSet w b x y z).cell? ⟨b,1,none⟩ = some y ∧ (rowSet w b x y z).cell? ⟨b,2,none⟩ = some z := by
 obtain ⟨y0,y1,y2,_⟩ := nil_cells h
 unfold rowSet
 refine ⟨?_,?_,?_⟩
 ·rw [World.cell?_setCell_other (h := by simp),World.cell?_setCell_other (h := by simp),World.cell?_setCell_same (h := y0)]
 ·rw [World.cell?_setCell_other (h := by simp),World.cell?_setCell_same' _ _ _ (some_set (by rw [y1]; rfl))]
 ·rw [World.cell?_setCell_same' _ _ _ (some_set (some_set (by rw [y2]; rfl)))]
theorem rowSet_size (w : World) (b : Nat) (x y z : Value) : (rowSet w b x y z).heap.size = w.heap.size := by simp [rowSet,World.setCell]
theorem rowSet_below {w0 w : World} {B b : Nat} {x y z : Value} (h : Below B w0 w) (hb : B ≤ b) : Below B w0 (rowSet w b x y z) := by
 unfold rowSet
 exact ((h.setCell (by exact hb) _).setCell (by exact hb) _).setCell (by exact hb) _
theorem EV.row {w : World} {v x y z : Value} {S : Int} {B g b : Nat} (h : EV w v S B g) (hb : w.heap[b]? = some nilRow) : EV (rowSet w b x y z) v S B g :=
 h.set3 hb (fun _ hi => rowSet_far hi) (Nat.le_of_eq (rowSet_size w b x y z).symm)
theorem EV.mono {w : World} {v : Value} {S : Int} {B g B' g' : Nat} (h : EV w v S B g) (hB : B ≤ B') (hg : g ≤ g') : EV w v S B' g' := by
 obtain ⟨l,h1,h2⟩ := h; exact ⟨l,h1,h2.mono hB hg⟩
theorem xsign_walk {w : World} {v : Value} {S : Int} {B g : Nat} (h : EV w v S B g) (hB : B ≤ 980) :
  Calls Tryz.prog 121 #[v] w fun r w' => r = .returned (.int .i64 (sgnI S)) ∧ w = w' := by
 obtain ⟨l,h1,h2⟩ := h
 have := sign_walk l v h2.exp.fins h2.exp.novs (h2.check hB) w h1
 rw [h2.exp.sum] at this
 exact this
theorem det4_sum {ax ay bx bY cx cy dx dy : Nat} {za zb zc m1 m2 m3 m4 m5 m6 s t u : Int}
  (hza : za * 2 ^ unitE = (fval ax - fval dx) * (fval ax - fval dx) + (fval ay - fval dy) * (fval ay - fval dy)) (hzb : zb * 2 ^ unitE = (fval bx - fval dx) * (fval bx - fval dx) + (fval bY - fval dy) * (fval bY - fval dy)) (hzc : zc * 2 ^ unitE = (fval cx - fval dx) * (fval cx - fval dx) + (fval cy - fval dy) * (fval cy - fval dy))
  (h1 : m1 * 2 ^ unitE = (fval bx - fval dx) * (fval cy - fval dy)) (h2 : m2 * 2 ^ unitE = (fval cx - fval dx) * (fval bY - fval dy)) (hs : s * 2 ^ unitE = za * (m1 - m2))
  (h3 : m3 * 2 ^ unitE = (fval cx - fval dx) * (fval ay - fval dy)) (h4 : m4 * 2 ^ unitE = (fval ax - fval dx) * (fval cy - fval dy)) (ht : t * 2 ^ unitE = zb * (m3 - m4))
  (h5 : m5 * 2 ^ unitE = (fval ax - fval dx) * (fval bY - fval dy)) (h6 : m6 * 2 ^ unitE = (fval bx - fval dx) * (fval ay - fval dy)) (hu : u * 2 ^ unitE = zc * (m5 - m6)) :
  sgnI (s + t + u) = sgnI (det4 (ax,ay) (bx,bY) (cx,cy) (dx,dy)) := by
 have e : det4 (ax,ay) (bx,bY) (cx,cy) (dx,dy) = (s + t + u) * 2 ^ (unitE + unitE + unitE) := by
  unfold det4
  dsimp only
  rw [← hza,← hzb,← hzc,← h1,← h2,← h3,← h4,← h5,← h6,Int.pow_add,Int.pow_add]
  generalize (2 : Int) ^ unitE = p at *
  have e1 : za * p * (m1 * p - m2 * p) = za * (m1 - m2) * p * p := by rw [← Int.sub_mul]; simp only [Int.mul_assoc,Int.mul_comm,Int.mul_left_comm]
  have e2 : zb * p * (m3 * p - m4 * p) = zb * (m3 - m4) * p * p := by rw [← Int.sub_mul]; simp only [Int.mul_assoc,Int.mul_comm,Int.mul_left_comm]
  have e3 : zc * p * (m5 * p - m6 * p) = zc * (m5 - m6) * p * p := by rw [← Int.sub_mul]; simp only [Int.mul_assoc,Int.mul_comm,Int.mul_left_comm]
  rw [e1,e2,e3,← hs,← ht,← hu]
  simp only [Int.add_mul,Int.mul_assoc]
 rw [e,sgnI_mul]
theorem csign_exact (ax ay bx bY cx cy dx dy : Nat) (h64 : ∀ p,p ∈ [(ax,ay),(bx,bY),(cx,cy),(dx,dy)] → pt64 p) (hok : [(ax,ay),(bx,bY),(cx,cy),(dx,dy)].all ptOK = true)
  (hF : ∀ w,Calls Tryz.prog 110 #[V (ax,ay),V (bx,bY),V (cx,cy),V (dx,dy)] w fun r w' => r = .returned (.tuple #[.int .i64 0,.bool false]) ∧ Below w.heap.size w w') (w : World) :
  Calls Tryz.prog 88 #[V (ax,ay),V (bx,bY),V (cx,cy),V (dx,dy)] w fun r w' => r = .returned (.int .i64 (sgnI (det4 (ax,ay) (bx,bY) (cx,cy) (dx,dy)))) ∧ Below w.heap.size w w' := by
 have HF := Lib.hid hF
 have HM := Lib.hid (good4 (ax,ay) (bx,bY) (cx,cy) (dx,dy) h64 true hok)
 have hall : ∀ p : Pt,p ∈ [(ax,ay),(bx,bY),(cx,cy),(dx,dy)] → (p.1 < 2 ^ 64 ∧ coordB p.1 = true) ∧ (p.2 < 2 ^ 64 ∧ coordB p.2 = true) := by
  intro p hp
  have h1 := h64 p hp
  have h2 := List.all_eq_true.1 hok p hp
  unfold ptOK at h2
  rw [Bool.and_eq_true] at h2
  exact ⟨⟨h1.1,h2.1⟩,⟨h1.2,h2.2⟩⟩
 have HA := Lib.hid (hall (ax,ay) (by simp))
 have HB := Lib.hid (hall (bx,bY) (by simp))
 have HC := Lib.hid (hall (cx,cy) (by simp))
 have HD := Lib.hid (hall (dx,dy) (by simp))
 clear hF hall h64 hok
 unfold V at *
 go_enter Tryz.func88,Tryz.ntmps88
 go_wp2_with (first
  |(go_at_call 110; refine (HF.out _).mono ?_; rintro r w1 ⟨rfl,hb1⟩; have p1 := (P8.made w ax ay bx bY cx cy dx dy 68).below hb1; obtain ⟨q1,q2,q3,q4,q5,q6,q7,q8⟩ := p1)
  |(go_at_call 111; refine (HM.out _ _ (heap_alloc_new _ _)).mono ?_; rintro r w2 ⟨rfl,hb2⟩))
 have P2 : Hid (P8 w2 w.heap.size ax ay bx bY cx cy dx dy) := P8.below (P8.below (w := w1) ⟨q1,q2,q3,q4,q5,q6,q7,q8⟩ ((Below.refl _ w1).alloc (Nat.le_refl _) _)) hb2
 have B2 : Hid (Below w.heap.size w w2) := by
  have h1 : Below w.heap.size w w1 := ((((Below.refl w.heap.size w).alloc (Nat.le_refl _) _).alloc (by simp) _).alloc (by simp <;> omega) _).alloc (by simp <;> omega) _ |>.trans (hb1.mono (by simp <;> omega))
  exact (h1.alloc h1.size _).trans (hb2.mono (by have := h1.size; simp; omega))
 clear q1 q2 q3 q4 q5 q6 q7 q8 hb1 hb2 HF HM
 go_wp2
 obtain ⟨WX,hWX⟩ : ∃ WX : World,WX = (((w2.alloc (.cells #[.func (.func 112) #[] #[]] 146)).alloc (.cells #[.func (.func 114) #[] #[]] 148)).alloc (.cells #[.func (.func 116) #[] #[]] 148)).alloc (.cells #[.func (.func 118) #[] #[.pointer (some ⟨w2.heap.size + 1,0,none⟩)]] 148) := ⟨_,rfl⟩
 rw [← hWX]
 have bx2 : Below w2.heap.size w2 WX := by rw [hWX]; exact (((Below.refl _ w2).alloc (Nat.le_refl _) _).alloc (by simp) _).alloc (by simp <;> omega) _ |>.alloc (by simp <;> omega) _
 have co : WX.cell? ⟨w2.heap.size,0,none⟩ = some (.func (.func 112) #[] #[]) := by
  rw [hWX,World.cell?_alloc_past _ _ _ (by simp <;> omega),World.cell?_alloc_past _ _ _ (by simp <;> omega),World.cell?_alloc_past _ _ _ (by simp),World.cell?_alloc_at _ _ _ _ rfl]; rfl
 have ca : WX.cell? ⟨w2.heap.size + 1,0,none⟩ = some (.func (.func 114) #[] #[]) := by
  rw [hWX,World.cell?_alloc_past _ _ _ (by simp <;> omega),World.cell?_alloc_past _ _ _ (by simp <;> omega),World.cell?_alloc_at _ _ _ _ (by simp)]; rfl
 have cm : WX.cell? ⟨w2.heap.size + 1 + 1,0,none⟩ = some (.func (.func 116) #[] #[]) := by
  rw [hWX,World.cell?_alloc_past _ _ _ (by simp <;> omega),World.cell?_alloc_at _ _ _ _ (by simp)]; rfl
 have cl : WX.cell? ⟨w2.heap.size + 1 + 1 + 1,0,none⟩ = some (.func (.func 118) #[] #[.pointer (some ⟨w2.heap.size + 1,0,none⟩)]) := by
  rw [hWX,World.cell?_alloc_at _ _ _ _ (by simp)]; rfl
 have px := P2.out.below bx2
 have HBX := Lib.hid (B2.out.trans (bx2.mono B2.out.size))
 have HCO := Lib.hid co
 have HCAD := Lib.hid ca
 have HCM := Lib.hid cm
 have HCL := Lib.hid cl
 have HPX := Lib.hid px
 have hSX : ∀ W,Below WX.heap.size WX W → (W.cell? ⟨w.heap.size,0,none⟩ = some (.float .f64 ax) ∧ W.cell? ⟨w.heap.size,1,none⟩ = some (.float .f64 ay) ∧ W.cell? ⟨w.heap.size + 1,0,none⟩ = some (.float .f64 bx) ∧ W.cell? ⟨w.heap.size + 1,1,none⟩ = some (.float .f64 bY) ∧ W.cell? ⟨w.heap.size + 1 + 1,0,none⟩ = some (.float .f64 cx) ∧ W.cell? ⟨w.heap.size + 1 + 1,1,none⟩ = some (.float .f64 cy)) := fun W hb =>
  have p := px.below hb
  ⟨p.1,p.2.1,p.2.2.1,p.2.2.2.1,p.2.2.2.2.1,p.2.2.2.2.2.1⟩
 have HSX := Lib.hid hSX
 have HROW : Hid (∀ x y W,(x < 2 ^ 64 ∧ coordB x = true) ∧ (y < 2 ^ 64 ∧ coordB y = true) → Below WX.heap.size WX W → Calls Tryz.prog 120 #[.agg #[.float .f64 x,.float .f64 y],.pointer (some ⟨w2.heap.size + 1 + 1 + 1,0,none⟩),.pointer (some ⟨w2.heap.size,0,none⟩),.pointer (some ⟨w.heap.size + 1 + 1 + 1,0,none⟩),.pointer (some ⟨w2.heap.size + 1,0,none⟩),.pointer (some ⟨w2.heap.size + 1 + 1,0,none⟩)] W fun r W' =>
   ∃ v,r = .returned v ∧ RowF W' v (fval x - fval dx) (fval y - fval dy) ∧ Below W.heap.size W W') := by
  intro x y W hp hb
  have p := px.below hb
  refine (crow_walk hp.1.1 hp.2.1 HD.out.1.1 HD.out.2.1 hp.1.2 hp.2.2 HD.out.1.2 HD.out.2.2 (cell_keep cl hb) (cell_keep co hb) p.2.2.2.2.2.2.1 p.2.2.2.2.2.2.2 (cell_keep ca hb) (cell_keep cm hb)).mono ?_
  rintro r W' ⟨vx,vy,vz,Z,rfl,e1,e2,e3,hz,hbb⟩
  obtain ⟨a1,n1,c1,rfl⟩ := e1.form
  obtain ⟨a2,n2,c2,rfl⟩ := e2.form
  obtain ⟨a3,n3,c3,rfl⟩ := e3.form
  exact ⟨_,rfl,⟨a1,n1,c1,a2,n2,c2,a3,n3,c3,Z,rfl,e1,e2,e3,hz⟩,hbb⟩
 clear hWX co ca cm cl px bx2 P2 B2 hSX
 rename (∀ (a : Act) (w : World),Code.wp _ _ _ a w → _) => hcA
 have HCA := Lib.hid (fun (_ : Unit) => hcA)
 clear hcA
 refine wp_region_held_drew (S := fun W => W.cell? ⟨w.heap.size,0,none⟩ = some (.float .f64 ax) ∧ W.cell? ⟨w.heap.size,1,none⟩ = some (.float .f64 ay) ∧ W.cell? ⟨w.heap.size + 1,0,none⟩ = some (.float .f64 bx) ∧ W.cell? ⟨w.heap.size + 1,1,none⟩ = some (.float .f64 bY) ∧ W.cell? ⟨w.heap.size + 1 + 1,0,none⟩ = some (.float .f64 cx) ∧ W.cell? ⟨w.heap.size + 1 + 1,1,none⟩ = some (.float .f64 cy)) (by kernel_rfl) (HSX.out _ (Below.refl _ WX).drew) (fun hHeld => ?_)
 refine wpAnyH_take (i := 0) (oi := ⟨some 43,_,_,_,_,none⟩) (v := ?_) rfl (by kernel_rfl) (by kernel_rfl) (by kernel_rfl) (fun _ _ _ h => h) (Or.inl ⟨by rfl,?_⟩) (by assumption) ?_
 rotate_left
 ·intro W hSw; (try dsimp only at hSw); go_simp; try with_reducible rfl
 simp only [Act.put,List.setIfInBounds_toArray,List.set_cons_zero,List.set_cons_succ]
 refine wpAnyH_take (i := 1) (oi := ⟨some 44,_,_,_,_,none⟩) (v := ?_) rfl (by kernel_rfl) (by kernel_rfl) (by kernel_rfl) (fun _ _ _ h => h) (Or.inl ⟨by rfl,?_⟩) (by assumption) ?_
 rotate_left
 ·intro W hSw; (try dsimp only at hSw); go_simp; try with_reducible rfl
 simp only [Act.put,List.setIfInBounds_toArray,List.set_cons_zero,List.set_cons_succ]
 refine wpAnyH_take (i := 3) (oi := ⟨some 46,_,_,_,_,none⟩) (v := ?_) rfl (by kernel_rfl) (by kernel_rfl) (by kernel_rfl) (fun _ _ _ h => h) (Or.inl ⟨by rfl,?_⟩) (by assumption) ?_
 rotate_left
 ·intro W hSw; (try dsimp only at hSw); go_simp; try with_reducible rfl
 simp only [Act.put,List.setIfInBounds_toArray,List.set_cons_zero,List.set_cons_succ]
 refine wpAnyH_take (i := 4) (oi := ⟨some 47,_,_,_,_,none⟩) (v := ?_) rfl (by kernel_rfl) (by kernel_rfl) (by kernel_rfl) (fun _ _ _ h => h) (Or.inl ⟨by rfl,?_⟩) (by assumption) ?_
 rotate_left
 ·intro W hSw; (try dsimp only at hSw); go_simp; try with_reducible rfl
 simp only [Act.put,List.setIfInBounds_toArray,List.set_cons_zero,List.set_cons_succ]
 refine wpAnyH_take (i := 6) (oi := ⟨some 49,_,_,_,_,none⟩) (v := ?_) rfl (by kernel_rfl) (by kernel_rfl) (by kernel_rfl) (fun _ _ _ h => h) (Or.inl ⟨by rfl,?_⟩) (by assumption) ?_
 rotate_left
 ·intro W hSw; (try dsimp only at hSw); go_simp; try with_reducible rfl
 simp only [Act.put,List.setIfInBounds_toArray,List.set_cons_zero,List.set_cons_succ]
 refine wpAnyH_take (i := 7) (oi := ⟨some 50,_,_,_,_,none⟩) (v := ?_) rfl (by kernel_rfl) (by kernel_rfl) (by kernel_rfl) (fun _ _ _ h => h) (Or.inl ⟨by rfl,?_⟩) (by assumption) ?_
 rotate_left
 ·intro W hSw; (try dsimp only at hSw); go_simp; try with_reducible rfl
 simp only [Act.put,List.setIfInBounds_toArray,List.set_cons_zero,List.set_cons_succ]
 change wpAnyH _ _ _ _ _ 9 (gridL 0 false false false) _ _
 refine grid_start (F := GF WX (fval ax - fval dx) (fval ay - fval dy) (fval bx - fval dx) (fval bY - fval dy) (fval cx - fval dx) (fval cy - fval dy)) ?hr ?h2 ?h5 ?h8 ?h9 ?h10 ?h11 ?hfin (by simp only [fillA,Act.put,List.setIfInBounds_toArray,List.set_cons_zero,List.set_cons_succ]) hHeld ⟨(Below.refl _ WX).drew,fun h => absurd h (by decide),fun h => absurd h (by decide),fun h => absurd h (by decide),fun h => (nomatch h),fun h => (nomatch h),fun h => (nomatch h),fun h => (nomatch h),fun h => (nomatch h),fun h => (nomatch h)⟩
 case hr => exact fun k m16 m17 m18 hk => gridReady k m16 m17 m18 hk (by kernel_rfl)
 case h2 =>
  intro m16 m17 m18 v1 v2 v3 x y z W hG
  have HG := Lib.hid hG
  clear hG
  refine wpOp_step (o := ⟨some 45,_,_,_,_,none⟩) rfl (fun K' hK => ?_)
  have HK := Lib.hid hK
  clear hK
  simp only [fillA,Act.put,List.setIfInBounds_toArray,List.set_cons_zero,List.set_cons_succ]
  go_simp
  go_at_call 120
  refine (HROW.out ax ay W HA.out HG.out.bel).mono ?_
  rintro r W' ⟨v,rfl,hr,hb⟩
  have g := HG.out.below hb
  refine HK.out _ _ ⟨v,?_,HSX.out _ g.bel,?_⟩
  ·simp only [fillA,Act.put,List.setIfInBounds_toArray,List.set_cons_zero,List.set_cons_succ]
  exact ⟨g.bel,fun _ => hr,fun h => absurd h (by decide),fun h => absurd h (by decide),g.nx,g.ny,g.nz,g.xy,g.xz,g.yz⟩
 case h5 =>
  intro m16 m17 m18 v1 v2 v3 x y z W hG
  have HG := Lib.hid hG
  clear hG
  refine wpOp_step (o := ⟨some 48,_,_,_,_,none⟩) rfl (fun K' hK => ?_)
  have HK := Lib.hid hK
  clear hK
  simp only [fillA,Act.put,List.setIfInBounds_toArray,List.set_cons_zero,List.set_cons_succ]
  go_simp
  go_at_call 120
  refine (HROW.out bx bY W HB.out HG.out.bel).mono ?_
  rintro r W' ⟨v,rfl,hr,hb⟩
  have g := HG.out.below hb
  refine HK.out _ _ ⟨v,?_,HSX.out _ g.bel,?_⟩
  ·simp only [fillA,Act.put,List.setIfInBounds_toArray,List.set_cons_zero,List.set_cons_succ]
  exact ⟨g.bel,fun _ => g.r1 (by decide),fun _ => hr,fun h => absurd h (by decide),g.nx,g.ny,g.nz,g.xy,g.xz,g.yz⟩
 case h8 =>
  intro m16 m17 m18 v1 v2 v3 x y z W hG
  have HG := Lib.hid hG
  clear hG
  refine wpOp_step (o := ⟨some 51,_,_,_,_,none⟩) rfl (fun K' hK => ?_)
  have HK := Lib.hid hK
  clear hK
  simp only [fillA,Act.put,List.setIfInBounds_toArray,List.set_cons_zero,List.set_cons_succ]
  go_simp
  go_at_call 120
  refine (HROW.out cx cy W HC.out HG.out.bel).mono ?_
  rintro r W' ⟨v,rfl,hr,hb⟩
  have g := HG.out.below hb
  refine HK.out _ _ ⟨v,?_,HSX.out _ g.bel,?_⟩
  ·simp only [fillA,Act.put,List.setIfInBounds_toArray,List.set_cons_zero,List.set_cons_succ]
  exact ⟨g.bel,fun _ => g.r1 (by decide),fun _ => g.r2 (by decide),fun _ => hr,g.nx,g.ny,g.nz,g.xy,g.xz,g.yz⟩
 case h9 =>
  intro k m17 m18 v1 v2 v3 x y z W hG
  have HG := Lib.hid hG
  clear hG
  refine wpOp_step (o := ⟨some 16,_,_,_,_,none⟩) rfl (fun K' hK => ?_)
  have HK := Lib.hid hK
  clear hK
  simp only [fillA,Act.put,List.setIfInBounds_toArray,List.set_cons_zero,List.set_cons_succ]
  go_simp
  refine HK.out _ _ ⟨_,?_,HSX.out _ HG.out.mx.bel,HG.out.mx⟩
  simp only [fillA,Act.put,List.setIfInBounds_toArray,List.set_cons_zero,List.set_cons_succ]
 case h10 =>
  intro k m16 m18 v1 v2 v3 x y z W hG
  have HG := Lib.hid hG
  clear hG
  refine wpOp_step (o := ⟨some 17,_,_,_,_,none⟩) rfl (fun K' hK => ?_)
  have HK := Lib.hid hK
  clear hK
  simp only [fillA,Act.put,List.setIfInBounds_toArray,List.set_cons_zero,List.set_cons_succ]
  go_simp
  refine HK.out _ _ ⟨_,?_,HSX.out _ HG.out.my.bel,HG.out.my⟩
  simp only [fillA,Act.put,List.setIfInBounds_toArray,List.set_cons_zero,List.set_cons_succ]
 case h11 =>
  intro k m16 m17 v1 v2 v3 x y z W hG
  have HG := Lib.hid hG
  clear hG
  refine wpOp_step (o := ⟨some 18,_,_,_,_,none⟩) rfl (fun K' hK => ?_)
  have HK := Lib.hid hK
  clear hK
  simp only [fillA,Act.put,List.setIfInBounds_toArray,List.set_cons_zero,List.set_cons_succ]
  go_simp
  refine HK.out _ _ ⟨_,?_,HSX.out _ HG.out.mz.bel,HG.out.mz⟩
  simp only [fillA,Act.put,List.setIfInBounds_toArray,List.set_cons_zero,List.set_cons_succ]
 case hfin =>
  intro v1 v2 v3 x y z W hS hG
  obtain ⟨a1,n1,c1,a2,n2,c2,a3,n3,c3,Za,rfl,ea1,ea2,ea3,eza⟩ := hG.r1 (by decide)
  obtain ⟨a4,n4,c4,a5,n5,c5,a6,n6,c6,Zb,rfl,eb1,eb2,eb3,ezb⟩ := hG.r2 (by decide)
  obtain ⟨a7,n7,c7,a8,n8,c8,a9,n9,c9,Zc,rfl,ec1,ec2,ec3,ezc⟩ := hG.r3 (by decide)
  obtain ⟨bx1,rfl,lx,hx1,hx2⟩ := hG.nx rfl
  obtain ⟨by1,rfl,ly,hy1,hy2⟩ := hG.ny rfl
  obtain ⟨bz1,rfl,lz,hz1,hz2⟩ := hG.nz rfl
  have nxy : bx1 ≠ by1 := fun e => hG.xy rfl rfl (by rw [e])
  have nxz : bx1 ≠ bz1 := fun e => hG.xz rfl rfl (by rw [e])
  have nyz : by1 ≠ bz1 := fun e => hG.yz rfl rfl (by rw [e])
  obtain ⟨W1,hW1⟩ : ∃ W1,W1 = rowSet W bx1 (.slice a1 n1 c1) (.slice a2 n2 c2) (.slice a3 n3 c3) := ⟨_,rfl⟩
  obtain ⟨W2,hW2⟩ : ∃ W2,W2 = rowSet W1 by1 (.slice a4 n4 c4) (.slice a5 n5 c5) (.slice a6 n6 c6) := ⟨_,rfl⟩
  obtain ⟨W3,hW3⟩ : ∃ W3,W3 = rowSet W2 bz1 (.slice a7 n7 c7) (.slice a8 n8 c8) (.slice a9 n9 c9) := ⟨_,rfl⟩
  have B1 : Below WX.heap.size WX W1 := by rw [hW1]; exact rowSet_below hG.bel lx
  have B2 : Below WX.heap.size WX W2 := by rw [hW2]; exact rowSet_below B1 ly
  have B3 : Below WX.heap.size WX W3 := by rw [hW3]; exact rowSet_below B2 lz
  have k0 := nil_cells hx2
  have k1 := nil_cells (w := W1) (b := by1) (by rw [hW1,rowSet_far nxy.symm]; exact hy2)
  have k2 := nil_cells (w := W2) (b := bz1) (by rw [hW2,rowSet_far nyz.symm,hW1,rowSet_far nxz.symm]; exact hz2)
  have HK0 := Lib.hid k0
  have HK1 := Lib.hid k1
  have HK2 := Lib.hid k2
  clear k0 k1 k2
  have HW1 := Lib.hid hW1
  have HW2 := Lib.hid hW2
  have HW3 := Lib.hid hW3
  clear hW1 hW2 hW3
  simp only [fillA,Act.put,List.setIfInBounds_toArray,List.set_cons_zero,List.set_cons_succ]
  refine wpAnyH_ready (rs := [12]) (by kernel_rfl) (by simp) (AllReadyH.cons (o := ⟨none,_,_,_,_,none⟩) rfl (fun K hK => ?_) AllReadyH.nil)
  have HK := Lib.hid hK
  clear hK
  obtain ⟨s0,s1,s2,f0,f1,f2⟩ := HK0.out
  go_simp
  clear s0 s1 s2 f0 f1 f2
  refine HK.out.out _ _ ?_ (fun _ => ?_)
  ·change _ ∧ _
   exact HSX.out _ (rowSet_below hG.bel lx)
  change wpAnyH _ _ _ _ _ _ _ _ (rowSet W bx1 _ _ _)
  rw [← HW1.out]
  refine wpAnyH_ready (rs := [13]) (by kernel_rfl) (by simp) (AllReadyH.cons (o := ⟨none,_,_,_,_,none⟩) rfl (fun K hK => ?_) AllReadyH.nil)
  have HK := Lib.hid hK
  clear hK
  obtain ⟨s0,s1,s2,f0,f1,f2⟩ := HK1.out
  go_simp
  clear s0 s1 s2 f0 f1 f2
  refine HK.out.out _ _ ?_ (fun _ => ?_)
  ·change _ ∧ _
   exact HSX.out _ (rowSet_below B1 ly)
  change wpAnyH _ _ _ _ _ _ _ _ (rowSet W1 by1 _ _ _)
  rw [← HW2.out]
  refine wpAnyH_ready (rs := [14]) (by kernel_rfl) (by simp) (AllReadyH.cons (o := ⟨none,_,_,_,_,none⟩) rfl (fun K hK => ?_) AllReadyH.nil)
  have HK := Lib.hid hK
  clear hK
  obtain ⟨s0,s1,s2,f0,f1,f2⟩ := HK2.out
  go_simp
  clear s0 s1 s2 f0 f1 f2
  refine HK.out.out _ _ ?_ (fun _ => ?_)
  ·change _ ∧ _
   exact HSX.out _ (rowSet_below B2 lz)
  change wpAnyH _ _ _ _ _ _ _ _ (rowSet W2 bz1 _ _ _)
  rw [← HW3.out]
  refine wpAnyH_done (by kernel_rfl) ?_ _
  have hcA := HCA.out ()
  have y1 : W1.heap[by1]? = some nilRow := by rw [HW1.out,rowSet_far nxy.symm]; exact hy2
  have z1 : W1.heap[bz1]? = some nilRow := by rw [HW1.out,rowSet_far nxz.symm]; exact hz2
  have z2 : W2.heap[bz1]? = some nilRow := by rw [HW2.out,rowSet_far nyz.symm]; exact z1
  have up : ∀ {v : Value} {S : Int} {B g : Nat},EV W v S B g → EV W3 v S B g := by
   intro v S B g h
   have h1 : EV W1 v S B g := by rw [HW1.out]; exact h.row hx2
   have h2 : EV W2 v S B g := by rw [HW2.out]; exact h1.row y1
   rw [HW3.out]; exact h2.row z2
  have k2 : ∀ (p : Addr),p.block ≠ bz1 → W3.cell? p = W2.cell? p := fun p h => World.cell?_of_block (by rw [HW3.out]; exact rowSet_far h)
  have k1 : ∀ (p : Addr),p.block ≠ by1 → W2.cell? p = W1.cell? p := fun p h => World.cell?_of_block (by rw [HW2.out]; exact rowSet_far h)
  obtain ⟨p1,p2,p3⟩ : W1.cell? ⟨bx1,0,none⟩ = some (.slice a1 n1 c1) ∧ W1.cell? ⟨bx1,1,none⟩ = some (.slice a2 n2 c2) ∧ W1.cell? ⟨bx1,2,none⟩ = some (.slice a3 n3 c3) := by rw [HW1.out]; exact rowSet_cells hx2
  obtain ⟨p4,p5,p6⟩ : W2.cell? ⟨by1,0,none⟩ = some (.slice a4 n4 c4) ∧ W2.cell? ⟨by1,1,none⟩ = some (.slice a5 n5 c5) ∧ W2.cell? ⟨by1,2,none⟩ = some (.slice a6 n6 c6) := by rw [HW2.out]; exact rowSet_cells y1
  obtain ⟨p7,p8,p9⟩ : W3.cell? ⟨bz1,0,none⟩ = some (.slice a7 n7 c7) ∧ W3.cell? ⟨bz1,1,none⟩ = some (.slice a8 n8 c8) ∧ W3.cell? ⟨bz1,2,none⟩ = some (.slice a9 n9 c9) := by rw [HW3.out]; exact rowSet_cells z2
  have hN : W3.cell? ⟨bx1,0,none⟩ = some (.slice a1 n1 c1) ∧ W3.cell? ⟨bx1,1,none⟩ = some (.slice a2 n2 c2) ∧ W3.cell? ⟨bx1,2,none⟩ = some (.slice a3 n3 c3) ∧ W3.cell? ⟨by1,0,none⟩ = some (.slice a4 n4 c4) ∧ W3.cell? ⟨by1,1,none⟩ = some (.slice a5 n5 c5) ∧ W3.cell? ⟨by1,2,none⟩ = some (.slice a6 n6 c6) ∧ W3.cell? ⟨bz1,0,none⟩ = some (.slice a7 n7 c7) ∧ W3.cell? ⟨bz1,1,none⟩ = some (.slice a8 n8 c8) ∧ W3.cell? ⟨bz1,2,none⟩ = some (.slice a9 n9 c9) ∧ W3.cell? ⟨w2.heap.size + 1 + 1,0,none⟩ = some (.func (.func 116) #[] #[]) ∧ W3.cell? ⟨w2.heap.size + 1 + 1 + 1,0,none⟩ = some (.func (.func 118) #[] #[.pointer (some ⟨w2.heap.size + 1,0,none⟩)]) :=
   ⟨(k2 _ nxz).trans ((k1 _ nxy).trans p1),(k2 _ nxz).trans ((k1 _ nxy).trans p2),(k2 _ nxz).trans ((k1 _ nxy).trans p3),(k2 _ nyz).trans p4,(k2 _ nyz).trans p5,(k2 _ nyz).trans p6,p7,p8,p9,cell_keep HCM.out B3,cell_keep HCL.out B3⟩
  have hN2 : ∀ W,Below W3.heap.size W3 W → W.cell? ⟨bx1,0,none⟩ = some (.slice a1 n1 c1) ∧ W.cell? ⟨bx1,1,none⟩ = some (.slice a2 n2 c2) ∧ W.cell? ⟨bx1,2,none⟩ = some (.slice a3 n3 c3) ∧ W.cell? ⟨by1,0,none⟩ = some (.slice a4 n4 c4) ∧ W.cell? ⟨by1,1,none⟩ = some (.slice a5 n5 c5) ∧ W.cell? ⟨by1,2,none⟩ = some (.slice a6 n6 c6) ∧ W.cell? ⟨bz1,0,none⟩ = some (.slice a7 n7 c7) ∧ W.cell? ⟨bz1,1,none⟩ = some (.slice a8 n8 c8) ∧ W.cell? ⟨bz1,2,none⟩ = some (.slice a9 n9 c9) ∧ W.cell? ⟨w2.heap.size + 1 + 1,0,none⟩ = some (.func (.func 116) #[] #[]) ∧ W.cell? ⟨w2.heap.size + 1 + 1 + 1,0,none⟩ = some (.func (.func 118) #[] #[.pointer (some ⟨w2.heap.size + 1,0,none⟩)]) := fun W hb =>
   ⟨cell_keep hN.1 hb,cell_keep hN.2.1 hb,cell_keep hN.2.2.1 hb,cell_keep hN.2.2.2.1 hb,cell_keep hN.2.2.2.2.1 hb,cell_keep hN.2.2.2.2.2.1 hb,cell_keep hN.2.2.2.2.2.2.1 hb,cell_keep hN.2.2.2.2.2.2.2.1 hb,cell_keep hN.2.2.2.2.2.2.2.2.1 hb,cell_keep hN.2.2.2.2.2.2.2.2.2.1 hb,cell_keep hN.2.2.2.2.2.2.2.2.2.2 hb⟩
  have HAX := Lib.hid (up ea1)
  have HAY := Lib.hid (up ea2)
  have HAZ := Lib.hid (up ea3)
  have HBX' := Lib.hid (up eb1)
  have HBY := Lib.hid (up eb2)
  have HBZ := Lib.hid (up eb3)
  have HCX := Lib.hid (up ec1)
  have HCY := Lib.hid (up ec2)
  have HCZ := Lib.hid (up ec3)
  have HZA := Lib.hid eza
  have HZB := Lib.hid ezb
  have HZC := Lib.hid ezc
  have HW3B := Lib.hid (HBX.out.trans (B3.mono HBX.out.size))
  have HADC := Lib.hid (cell_keep HCAD.out B3)
  have HM1 : Hid (∀ ve vf S T W,EV W3 ve S 101 100 → EV W3 vf T 101 100 → Hid (Below W3.heap.size W3 W) → Calls Tryz.prog 116 #[ve,vf] W fun r W' => ∃ ad n c R,r = .returned (.slice ad n c) ∧ Hid (EV W' (.slice ad n c) R 202 200) ∧ Hid (R * 2 ^ unitE = S * T) ∧ Hid (Below W.heap.size W W') ∧ Hid (Below W3.heap.size W3 W') ∧ (W'.cell? ⟨bx1,0,none⟩ = some (.slice a1 n1 c1) ∧ W'.cell? ⟨bx1,1,none⟩ = some (.slice a2 n2 c2) ∧ W'.cell? ⟨bx1,2,none⟩ = some (.slice a3 n3 c3) ∧ W'.cell? ⟨by1,0,none⟩ = some (.slice a4 n4 c4) ∧ W'.cell? ⟨by1,1,none⟩ = some (.slice a5 n5 c5) ∧ W'.cell? ⟨by1,2,none⟩ = some (.slice a6 n6 c6) ∧ W'.cell? ⟨bz1,0,none⟩ = some (.slice a7 n7 c7) ∧ W'.cell? ⟨bz1,1,none⟩ = some (.slice a8 n8 c8) ∧ W'.cell? ⟨bz1,2,none⟩ = some (.slice a9 n9 c9) ∧ W'.cell? ⟨w2.heap.size + 1 + 1,0,none⟩ = some (.func (.func 116) #[] #[]) ∧ W'.cell? ⟨w2.heap.size + 1 + 1 + 1,0,none⟩ = some (.func (.func 118) #[] #[.pointer (some ⟨w2.heap.size + 1,0,none⟩)]))) := by
   intro ve vf S T W h1 h2 hB
   refine (cmul_walk (h1.below hB.out) (h2.below hB.out) (by decide) (by decide) (by decide) (by decide)).mono ?_
   rintro r W' ⟨v', R,rfl,he,hq,hb⟩
   obtain ⟨ad,n,c,rfl⟩ := he.form
   have hB' := hB.out.trans (hb.mono hB.out.size)
   exact ⟨ad,n,c,R,rfl,he,hq,hb,hB', hN2 _ hB'⟩
  have HM2 : Hid (∀ ve vf S T W,EV W3 ve S 203 200 → Hid (EV W vf T 203 200) → Hid (Below W3.heap.size W3 W) → Calls Tryz.prog 116 #[ve,vf] W fun r W' => ∃ ad n c R,r = .returned (.slice ad n c) ∧ Hid (EV W' (.slice ad n c) R 406 400) ∧ Hid (R * 2 ^ unitE = S * T) ∧ Hid (Below W.heap.size W W') ∧ Hid (Below W3.heap.size W3 W') ∧ (W'.cell? ⟨bx1,0,none⟩ = some (.slice a1 n1 c1) ∧ W'.cell? ⟨bx1,1,none⟩ = some (.slice a2 n2 c2) ∧ W'.cell? ⟨bx1,2,none⟩ = some (.slice a3 n3 c3) ∧ W'.cell? ⟨by1,0,none⟩ = some (.slice a4 n4 c4) ∧ W'.cell? ⟨by1,1,none⟩ = some (.slice a5 n5 c5) ∧ W'.cell? ⟨by1,2,none⟩ = some (.slice a6 n6 c6) ∧ W'.cell? ⟨bz1,0,none⟩ = some (.slice a7 n7 c7) ∧ W'.cell? ⟨bz1,1,none⟩ = some (.slice a8 n8 c8) ∧ W'.cell? ⟨bz1,2,none⟩ = some (.slice a9 n9 c9) ∧ W'.cell? ⟨w2.heap.size + 1 + 1,0,none⟩ = some (.func (.func 116) #[] #[]) ∧ W'.cell? ⟨w2.heap.size + 1 + 1 + 1,0,none⟩ = some (.func (.func 118) #[] #[.pointer (some ⟨w2.heap.size + 1,0,none⟩)]))) := by
   intro ve vf S T W h1 h2 hB
   refine (cmul_walk (h1.below hB.out) h2.out (by decide) (by decide) (by decide) (by decide)).mono ?_
   rintro r W' ⟨v', R,rfl,he,hq,hb⟩
   obtain ⟨ad,n,c,rfl⟩ := he.form
   have hB' := hB.out.trans (hb.mono hB.out.size)
   exact ⟨ad,n,c,R,rfl,he,hq,hb,hB', hN2 _ hB'⟩
  have HLS : Hid (∀ ve vf S T W,Hid (EV W ve S 202 200) → Hid (EV W vf T 202 200) → Hid (Below W3.heap.size W3 W) → Calls Tryz.prog 118 #[ve,vf,.pointer (some ⟨w2.heap.size + 1,0,none⟩)] W fun r W' => ∃ ad n c,r = .returned (.slice ad n c) ∧ Hid (EV W' (.slice ad n c) (S - T) 203 200) ∧ Hid (Below W.heap.size W W') ∧ Hid (Below W3.heap.size W3 W') ∧ (W'.cell? ⟨bx1,0,none⟩ = some (.slice a1 n1 c1) ∧ W'.cell? ⟨bx1,1,none⟩ = some (.slice a2 n2 c2) ∧ W'.cell? ⟨bx1,2,none⟩ = some (.slice a3 n3 c3) ∧ W'.cell? ⟨by1,0,none⟩ = some (.slice a4 n4 c4) ∧ W'.cell? ⟨by1,1,none⟩ = some (.slice a5 n5 c5) ∧ W'.cell? ⟨by1,2,none⟩ = some (.slice a6 n6 c6) ∧ W'.cell? ⟨bz1,0,none⟩ = some (.slice a7 n7 c7) ∧ W'.cell? ⟨bz1,1,none⟩ = some (.slice a8 n8 c8) ∧ W'.cell? ⟨bz1,2,none⟩ = some (.slice a9 n9 c9) ∧ W'.cell? ⟨w2.heap.size + 1 + 1,0,none⟩ = some (.func (.func 116) #[] #[]) ∧ W'.cell? ⟨w2.heap.size + 1 + 1 + 1,0,none⟩ = some (.func (.func 118) #[] #[.pointer (some ⟨w2.heap.size + 1,0,none⟩)]))) := by
   intro ve vf S T W h1 h2 hB
   refine (cless_walk h1.out h2.out (by decide) (cell_keep HADC.out hB.out)).mono ?_
   rintro r W' ⟨v', rfl,he,hb⟩
   obtain ⟨ad,n,c,rfl⟩ := he.form
   have hB' := hB.out.trans (hb.mono hB.out.size)
   exact ⟨ad,n,c,rfl,he,hb,hB', hN2 _ hB'⟩
  have HN2 := Lib.hid hN2
  have B0 : Hid (Below W3.heap.size W3 W3.drew) := (Below.refl _ W3).drew
  have n0 := hN2 W3.drew B0.out
  clear hN hN2 up k1 k2 p1 p2 p3 p4 p5 p6 p7 p8 p9 y1 z1 z2 ea1 ea2 ea3 eb1 eb2 eb3 ec1 ec2 ec3 eza ezb ezc HK0 HK1 HK2 hS HROW HSX HW1 HW2 HW3 B1 B2 B3 nxy nxz nyz hx1 hx2 hy1 hy2 hz1 hz2 lx ly lz hG HPX HCO HCM HCL HCAD HBX HA HB HC HD HCA
  go_wp2
  go_region_held3 (fun W => W.cell? ⟨bx1,0,none⟩ = some (.slice a1 n1 c1) ∧ W.cell? ⟨bx1,1,none⟩ = some (.slice a2 n2 c2) ∧ W.cell? ⟨bx1,2,none⟩ = some (.slice a3 n3 c3) ∧ W.cell? ⟨by1,0,none⟩ = some (.slice a4 n4 c4) ∧ W.cell? ⟨by1,1,none⟩ = some (.slice a5 n5 c5) ∧ W.cell? ⟨by1,2,none⟩ = some (.slice a6 n6 c6) ∧ W.cell? ⟨bz1,0,none⟩ = some (.slice a7 n7 c7) ∧ W.cell? ⟨bz1,1,none⟩ = some (.slice a8 n8 c8) ∧ W.cell? ⟨bz1,2,none⟩ = some (.slice a9 n9 c9) ∧ W.cell? ⟨w2.heap.size + 1 + 1,0,none⟩ = some (.func (.func 116) #[] #[]) ∧ W.cell? ⟨w2.heap.size + 1 + 1 + 1,0,none⟩ = some (.func (.func 118) #[] #[.pointer (some ⟨w2.heap.size + 1,0,none⟩)])) (first | assumption | exact n0)
   (first
    |(go_at_call 116; with_reducible refine (HM1.out _ _ _ _ _ HBX'.out HCY.out B0).mono ?_; rintro r w11 ⟨as1,ns1,cs1,Rs1,rfl,Es1,Qs1,Cs1,Bs1,nss1⟩)
    |(go_at_call 116; with_reducible refine (HM1.out _ _ _ _ _ HCX.out HBY.out Bs1).mono ?_; rintro r w12 ⟨as2,ns2,cs2,Rs2,rfl,Es2,Qs2,Cs2,Bs2,nss2⟩; have Es1' := Lib.hid (Es1.out.below Cs2.out))
    |(go_at_call 118; with_reducible refine (HLS.out _ _ _ _ _ Es1' Es2 Bs2).mono ?_; rintro r w13 ⟨as3,ns3,cs3,rfl,Es3,Cs3,Bs3,nss3⟩)
    |(go_at_call 116; with_reducible refine (HM2.out _ _ _ _ _ HAZ.out Es3 Bs3).mono ?_; rintro r w14 ⟨as4,ns4,cs4,Rs4,rfl,Es4,Qs4,Cs4,Bs4,nss4⟩))
  have Fs : Hid (EV w14.drew (.slice as4 ns4 cs4) Rs4 406 400) := EV.drew Es4.out
  clear B0 n0 nss1 nss2 nss3 nss4 Es1 Es1' Es2 Es3 Es4 Cs1 Cs2 Cs3 Cs4 Bs1 Bs2 Bs3
  have B0 : Hid (Below W3.heap.size W3 w14.drew) := Bs4.out.drew
  clear Bs4
  have n0 := HN2.out w14.drew B0.out
  go_wp2
  go_region_held3 (fun W => W.cell? ⟨bx1,0,none⟩ = some (.slice a1 n1 c1) ∧ W.cell? ⟨bx1,1,none⟩ = some (.slice a2 n2 c2) ∧ W.cell? ⟨bx1,2,none⟩ = some (.slice a3 n3 c3) ∧ W.cell? ⟨by1,0,none⟩ = some (.slice a4 n4 c4) ∧ W.cell? ⟨by1,1,none⟩ = some (.slice a5 n5 c5) ∧ W.cell? ⟨by1,2,none⟩ = some (.slice a6 n6 c6) ∧ W.cell? ⟨bz1,0,none⟩ = some (.slice a7 n7 c7) ∧ W.cell? ⟨bz1,1,none⟩ = some (.slice a8 n8 c8) ∧ W.cell? ⟨bz1,2,none⟩ = some (.slice a9 n9 c9) ∧ W.cell? ⟨w2.heap.size + 1 + 1,0,none⟩ = some (.func (.func 116) #[] #[]) ∧ W.cell? ⟨w2.heap.size + 1 + 1 + 1,0,none⟩ = some (.func (.func 118) #[] #[.pointer (some ⟨w2.heap.size + 1,0,none⟩)])) (first | assumption | exact n0)
   (first
    |(go_at_call 116; with_reducible refine (HM1.out _ _ _ _ _ HCX.out HAY.out B0).mono ?_; rintro r w21 ⟨at1,nt1,ct1,Rt1,rfl,Et1,Qt1,Ct1,Bt1,nts1⟩)
    |(go_at_call 116; with_reducible refine (HM1.out _ _ _ _ _ HAX.out HCY.out Bt1).mono ?_; rintro r w22 ⟨at2,nt2,ct2,Rt2,rfl,Et2,Qt2,Ct2,Bt2,nts2⟩; have Et1' := Lib.hid (Et1.out.below Ct2.out))
    |(go_at_call 118; with_reducible refine (HLS.out _ _ _ _ _ Et1' Et2 Bt2).mono ?_; rintro r w23 ⟨at3,nt3,ct3,rfl,Et3,Ct3,Bt3,nts3⟩)
    |(go_at_call 116; with_reducible refine (HM2.out _ _ _ _ _ HBZ.out Et3 Bt3).mono ?_; rintro r w24 ⟨at4,nt4,ct4,Rt4,rfl,Et4,Qt4,Ct4,Bt4,nts4⟩))
  have Ft : Hid (EV w24.drew (.slice at4 nt4 ct4) Rt4 406 400) := EV.drew Et4.out
  have Fs' : Hid (EV w24.drew (.slice as4 ns4 cs4) Rs4 406 400) := EV.drew ((((Fs.out.below Ct1.out).below Ct2.out).below Ct3.out).below Ct4.out)
  clear Fs
  have Fs := Fs'
  clear Fs'
  clear B0 n0 nts1 nts2 nts3 nts4 Et1 Et1' Et2 Et3 Et4 Ct1 Ct2 Ct3 Ct4 Bt1 Bt2 Bt3
  have B0 : Hid (Below W3.heap.size W3 w24.drew) := Bt4.out.drew
  clear Bt4
  have n0 := HN2.out w24.drew B0.out
  go_wp2
  go_region_held3 (fun W => W.cell? ⟨bx1,0,none⟩ = some (.slice a1 n1 c1) ∧ W.cell? ⟨bx1,1,none⟩ = some (.slice a2 n2 c2) ∧ W.cell? ⟨bx1,2,none⟩ = some (.slice a3 n3 c3) ∧ W.cell? ⟨by1,0,none⟩ = some (.slice a4 n4 c4) ∧ W.cell? ⟨by1,1,none⟩ = some (.slice a5 n5 c5) ∧ W.cell? ⟨by1,2,none⟩ = some (.slice a6 n6 c6) ∧ W.cell? ⟨bz1,0,none⟩ = some (.slice a7 n7 c7) ∧ W.cell? ⟨bz1,1,none⟩ = some (.slice a8 n8 c8) ∧ W.cell? ⟨bz1,2,none⟩ = some (.slice a9 n9 c9) ∧ W.cell? ⟨w2.heap.size + 1 + 1,0,none⟩ = some (.func (.func 116) #[] #[]) ∧ W.cell? ⟨w2.heap.size + 1 + 1 + 1,0,none⟩ = some (.func (.func 118) #[] #[.pointer (some ⟨w2.heap.size + 1,0,none⟩)])) (first | assumption | exact n0)
   (first
    |(go_at_call 116; with_reducible refine (HM1.out _ _ _ _ _ HAX.out HBY.out B0).mono ?_; rintro r w31 ⟨au1,nu1,cu1,Ru1,rfl,Eu1,Qu1,Cu1,Bu1,nus1⟩)
    |(go_at_call 116; with_reducible refine (HM1.out _ _ _ _ _ HBX'.out HAY.out Bu1).mono ?_; rintro r w32 ⟨au2,nu2,cu2,Ru2,rfl,Eu2,Qu2,Cu2,Bu2,nus2⟩; have Eu1' := Lib.hid (Eu1.out.below Cu2.out))
    |(go_at_call 118; with_reducible refine (HLS.out _ _ _ _ _ Eu1' Eu2 Bu2).mono ?_; rintro r w33 ⟨au3,nu3,cu3,rfl,Eu3,Cu3,Bu3,nus3⟩)
    |(go_at_call 116; with_reducible refine (HM2.out _ _ _ _ _ HCZ.out Eu3 Bu3).mono ?_; rintro r w34 ⟨au4,nu4,cu4,Ru4,rfl,Eu4,Qu4,Cu4,Bu4,nus4⟩))
  have Fu : Hid (EV w34.drew (.slice au4 nu4 cu4) Ru4 406 400) := EV.drew Eu4.out
  have Fs' : Hid (EV w34.drew (.slice as4 ns4 cs4) Rs4 406 400) := EV.drew ((((Fs.out.below Cu1.out).below Cu2.out).below Cu3.out).below Cu4.out)
  clear Fs
  have Fs := Fs'
  clear Fs'
  have Ft' : Hid (EV w34.drew (.slice at4 nt4 ct4) Rt4 406 400) := EV.drew ((((Ft.out.below Cu1.out).below Cu2.out).below Cu3.out).below Cu4.out)
  clear Ft
  have Ft := Ft'
  clear Ft'
  clear B0 n0 nus1 nus2 nus3 nus4 Eu1 Eu1' Eu2 Eu3 Eu4 Cu1 Cu2 Cu3 Cu4 Bu1 Bu2 Bu3
  have B0 : Hid (Below W3.heap.size W3 w34.drew) := Bu4.out.drew
  clear Bu4
  have n0 := HN2.out w34.drew B0.out
  have HSG := Lib.hid (det4_sum HZA.out HZB.out HZC.out Qs1.out Qs2.out Qs4.out Qt1.out Qt2.out Qt4.out Qu1.out Qu2.out Qu4.out)
  have c0 : w34.drew.cell? ⟨w2.heap.size + 1,0,none⟩ = some (.func (.func 114) #[] #[]) := cell_keep HADC.out B0.out
  have HA1 : Hid (Calls Tryz.prog 114 #[.slice as4 ns4 cs4,.slice at4 nt4 ct4] w34.drew fun r W' => ∃ ad n c,r = .returned (.slice ad n c) ∧ Hid (EV W' (.slice ad n c) (Rs4 + Rt4) 407 400) ∧ Hid (EV W' (.slice au4 nu4 cu4) Ru4 407 400) ∧ Hid (Below W3.heap.size W3 W') ∧ W'.cell? ⟨w2.heap.size + 1,0,none⟩ = some (.func (.func 114) #[] #[])) := by
   refine (cadd_walk Fs.out Ft.out (by decide)).mono ?_
   rintro r W' ⟨v', rfl,he,hb⟩
   obtain ⟨ad,n,c,rfl⟩ := he.form
   have hB' := B0.out.trans (hb.mono B0.out.size)
   exact ⟨ad,n,c,rfl,he,(Fu.out.below hb).mono (by decide) (Nat.le_refl _),hB', cell_keep c0 hb⟩
  have HA2 : Hid (∀ W ve,Hid (EV W ve (Rs4 + Rt4) 407 400) → Hid (EV W (.slice au4 nu4 cu4) Ru4 407 400) → Hid (Below W3.heap.size W3 W) → Calls Tryz.prog 114 #[ve,.slice au4 nu4 cu4] W fun r W' => ∃ ad n c,r = .returned (.slice ad n c) ∧ Hid (EV W' (.slice ad n c) (Rs4 + Rt4 + Ru4) 408 400) ∧ Hid (Below W3.heap.size W3 W') ∧ W'.cell? ⟨w2.heap.size + 1,0,none⟩ = some (.func (.func 114) #[] #[])) := by
   intro W ve h1 h2 h3
   refine (cadd_walk h1.out h2.out (by decide)).mono ?_
   rintro r W' ⟨v', rfl,he,hb⟩
   obtain ⟨ad,n,c,rfl⟩ := he.form
   have hB' := h3.out.trans (hb.mono h3.out.size)
   exact ⟨ad,n,c,rfl,he,hB', cell_keep HADC.out hB'⟩
  have HSN : Hid (∀ W v,Hid (EV W v (Rs4 + Rt4 + Ru4) 408 400) → Calls Tryz.prog 121 #[v] W fun r W' => r = .returned (.int .i64 (sgnI (det4 (ax,ay) (bx,bY) (cx,cy) (dx,dy)))) ∧ W = W') := by
   intro W v h
   have := xsign_walk h.out (by decide)
   rwa [HSG.out] at this
  clear n0 HM1 HM2 HLS HN2 HAX HAY HAZ HBX' HBY HBZ HCX HCY HCZ HZA HZB HZC Qs1 Qs2 Qs4 Qt1 Qt2 Qt4 Qu1 Qu2 Qu4 HSG HADC Fs Ft Fu
  go_wp2
  go_region_held3 (fun W => W.cell? ⟨w2.heap.size + 1,0,none⟩ = some (.func (.func 114) #[] #[])) (first | assumption | exact c0 | exact c1 | exact c2)
   (first
    |(go_at_call 114; with_reducible refine HA1.out.mono ?_; rintro r w41 ⟨a41,n41,c41,rfl,E41,F41,B41,c1⟩)
    |(go_at_call 114; with_reducible refine (HA2.out _ _ E41 F41 B41).mono ?_; rintro r w42 ⟨a42,n42,c42,rfl,E42,B42,c2⟩)
    |(go_at_call 121; with_reducible refine (HSN.out _ _ E42).mono ?_; rintro r w43 ⟨rfl,rfl⟩))
  go_wp2
  go_ret
  exact ⟨rfl,HW3B.out.trans (B42.out.mono HW3B.out.size)⟩
end Go.Proofs.YtbagikgpgdlkcaaGreatDoor
