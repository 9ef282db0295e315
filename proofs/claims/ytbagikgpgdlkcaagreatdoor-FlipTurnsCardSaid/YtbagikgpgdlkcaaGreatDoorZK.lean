/- Part of the proof. No conditions. -/
import Derived.Test.YtbagikgpgdlkcaaGreatDoorZJ
set_option linter.all false
set_option maxHeartbeats 8000000
set_option maxRecDepth 100000
namespace Go.Proofs.YtbagikgpgdlkcaaGreatDoor
open Go.RowKit Tvf Go.Maps Go.WideMaps
def P6 (w : World) (B : Nat) (a b c : Pt) : Prop :=
 w.cell? ⟨B,0,none⟩ = some (.float .f64 a.1) ∧ w.cell? ⟨B,1,none⟩ = some (.float .f64 a.2) ∧ w.cell? ⟨B + 1,0,none⟩ = some (.float .f64 b.1) ∧ w.cell? ⟨B + 1,1,none⟩ = some (.float .f64 b.2) ∧ w.cell? ⟨B + 1 + 1,0,none⟩ = some (.float .f64 c.1) ∧ w.cell? ⟨B + 1 + 1,1,none⟩ = some (.float .f64 c.2)
theorem P6.below {w w' : World} {B : Nat} {a b c : Pt} (h : P6 w B a b c) (hb : Below w.heap.size w w') : P6 w' B a b c :=
 ⟨cell_keep h.1 hb,cell_keep h.2.1 hb,cell_keep h.2.2.1 hb,cell_keep h.2.2.2.1 hb,cell_keep h.2.2.2.2.1 hb,cell_keep h.2.2.2.2.2 hb⟩
theorem P6.made (w : World) (a b c : Pt) (T : TypeId) : P6 (((w.alloc (.cells #[.float .f64 a.1,.float .f64 a.2] T)).alloc (.cells #[.float .f64 b.1,.float .f64 b.2] T)).alloc (.cells #[.float .f64 c.1,.float .f64 c.2] T)) w.heap.size a b c := by
 have e1 : (w.alloc (.cells #[.float .f64 a.1,.float .f64 a.2] T)).heap.size = w.heap.size + 1 := by simp
 have e2 : ((w.alloc (.cells #[.float .f64 a.1,.float .f64 a.2] T)).alloc (.cells #[.float .f64 b.1,.float .f64 b.2] T)).heap.size = w.heap.size + 1 + 1 := by simp
 have h1 := new2 w (.float .f64 a.1) (.float .f64 a.2) T
 have h2 := new2 (w.alloc (.cells #[.float .f64 a.1,.float .f64 a.2] T)) (.float .f64 b.1) (.float .f64 b.2) T
 have h3 := new2 ((w.alloc (.cells #[.float .f64 a.1,.float .f64 a.2] T)).alloc (.cells #[.float .f64 b.1,.float .f64 b.2] T)) (.float .f64 c.1) (.float .f64 c.2) T
 rw [e1] at h2
 rw [e2] at h3
 exact ⟨cell_al (cell_al h1.1 _) _,cell_al (cell_al h1.2 _) _,cell_al h2.1 _,cell_al h2.2 _,h3.1,h3.2⟩
abbrev tNum : TypeId := 124
def zNum : Obj := .cells #[.int .i64 0,.slice none 0 0,.int .i64 0] tNum
def Z3b (w : World) (b : Nat) : Prop := Box3 tNum w b (.int .i64 0) (.slice none 0 0) (.int .i64 0)
def litL (k : Nat) (m : Bool) : Array Bool := #[true,true,true,true,decide (1 ≤ k),true,true,true,true,decide (2 ≤ k),decide (3 ≤ k),m,false]
def litC (k : Nat) : Nat := if k = 0 then 4 else if k = 1 then 9 else 10
theorem litReady {ops : Array Oper} (h : (List.range 4).all (fun k => [false,true].all fun m => (k == 3 && m) || (!(Region.ready .any ops (litL k m)).isEmpty && (Region.ready .any ops (litL k m)).all fun i => (i == litC k && decide (k < 3)) || (i == 11 && !m))) = true) :
  ∀ k m,k ≤ 3 → (k = 3 ∧ m = true) ∨ (Region.ready .any ops (litL k m) ≠ [] ∧ ∀ i ∈ Region.ready .any ops (litL k m),(i = litC k ∧ k < 3) ∨ (i = 11 ∧ m = false)) := by
 intro k m hk
 have h1 := List.all_eq_true.1 h k (List.mem_range.2 (by omega))
 have h2 := List.all_eq_true.1 h1 m (by cases m <;> simp)
 rw [Bool.or_eq_true,Bool.and_eq_true,Bool.and_eq_true] at h2
 rcases h2 with ⟨h3,h4⟩ | ⟨h3,h4⟩
 ·exact .inl ⟨by simpa using h3,h4⟩
 ·refine .inr ⟨by intro e; rw [e] at h3; simp at h3,fun i hi => ?_⟩
  have := List.all_eq_true.1 h4 i hi
  simpa using this
theorem litL1 : ∀ k m,k < 3 → (litL k m).setIfInBounds (litC k) true = litL (k + 1) m := by
 intro k m hk
 have : k = 0 ∨ k = 1 ∨ k = 2 := by omega
 rcases this with rfl | rfl | rfl <;> rfl
theorem litL2 : ∀ k,k ≤ 3 → (litL k false).setIfInBounds 11 true = litL k true := by
 intro k _; rfl
def fillT (a : Act) (d1 d2 d3 dp : Nat) (v1 v2 v3 p : Value) : Act := (((a.put (some d1) v1).put (some d2) v2).put (some d3) v3).put (some dp) p
structure GT (W0 : World) (k1 k2 : Int) (k : Nat) (m : Bool) (v1 v2 v3 p : Value) (w : World) : Prop where
 bel : Below W0.heap.size W0 w
 n1 : 1 ≤ k → NumK w v1 8 k1
 n2 : 2 ≤ k → NumK w v2 8 k2
 n3 : 3 ≤ k → ∃ z,NumK w v3 16 z ∧ z * (BB ^ 200 : Nat) = k1 * k2
 bx : m = true → ∃ b,p = .pointer (some ⟨b,0,none⟩) ∧ W0.heap.size ≤ b ∧ Z3b w b
section
variable {W0 w w' : World} {k1 k2 : Int} {k : Nat} {m : Bool} {v1 v2 v3 p : Value}
theorem GT.below (h : GT W0 k1 k2 k m v1 v2 v3 p w) (hb : Below w.heap.size w w') : GT W0 k1 k2 k m v1 v2 v3 p w' :=
 ⟨h.bel.trans (hb.mono h.bel.size),fun e => (h.n1 e).below hb,fun e => (h.n2 e).below hb,fun e => by obtain ⟨z,h1,h2⟩ := h.n3 e; exact ⟨z,h1.below hb,h2⟩,fun e => by obtain ⟨b,h1,h2,h3⟩ := h.bx e; exact ⟨b,h1,h2,Box3.below h3 hb⟩⟩
theorem GT.box (h : GT W0 k1 k2 k false v1 v2 v3 p w) : GT W0 k1 k2 k true v1 v2 v3 (.pointer (some ⟨w.heap.size,0,none⟩)) (w.alloc zNum) := by
 have g := h.below ((Below.refl _ w).alloc (Nat.le_refl _) zNum)
 exact ⟨g.bel,g.n1,g.n2,g.n3,fun _ => ⟨_,rfl,h.bel.size,Box3.new _ _ _ _ _⟩⟩
theorem GT.c1 (h : GT W0 k1 k2 0 m v1 v2 v3 p w) {z : Value} (hb : Below w.heap.size w w') (hz : NumK w' z 8 k1) : GT W0 k1 k2 1 m z v2 v3 p w' := by
 have g := h.below hb
 exact ⟨g.bel,fun _ => hz,fun e => absurd e (by omega),fun e => absurd e (by omega),g.bx⟩
theorem GT.c2 (h : GT W0 k1 k2 1 m v1 v2 v3 p w) {z : Value} (hb : Below w.heap.size w w') (hz : NumK w' z 8 k2) : GT W0 k1 k2 2 m v1 z v3 p w' := by
 have g := h.below hb
 exact ⟨g.bel,fun _ => g.n1 (by omega),fun _ => hz,fun e => absurd e (by omega),g.bx⟩
theorem GT.c3 (h : GT W0 k1 k2 2 m v1 v2 v3 p w) {z : Value} {q : Int} (hb : Below w.heap.size w w') (hz : NumK w' z 16 q) (hq : q * (BB ^ 200 : Nat) = k1 * k2) : GT W0 k1 k2 3 m v1 v2 z p w' := by
 have g := h.below hb
 exact ⟨g.bel,fun _ => g.n1 (by omega),fun _ => g.n2 (by omega),fun _ => ⟨q,hz,hq⟩,g.bx⟩
end
theorem lit {P : Program} {ops : Array Oper} {Q : Exit → Act → World → Prop} {S : World → Prop} {a0 : Act} {d1 d2 d3 dp : Nat} {w : World} (st : Nat → Bool → Value → Value → Value → Value → World → Prop)
  (hr : (List.range 4).all (fun k => [false,true].all fun m => (k == 3 && m) || (!(Region.ready .any ops (litL k m)).isEmpty && (Region.ready .any ops (litL k m)).all fun i => (i == litC k && decide (k < 3)) || (i == 11 && !m))) = true)
  (h0 : ∀ m v1 v2 v3 p w,st 0 m v1 v2 v3 p w → wpOp P ops Q 4 (fun a' w' => S w' ∧ ∃ z,a' = fillT a0 d1 d2 d3 dp z v2 v3 p ∧ st 1 m z v2 v3 p w') (fillT a0 d1 d2 d3 dp v1 v2 v3 p) w)
  (h1 : ∀ m v1 v2 v3 p w,st 1 m v1 v2 v3 p w → wpOp P ops Q 9 (fun a' w' => S w' ∧ ∃ z,a' = fillT a0 d1 d2 d3 dp v1 z v3 p ∧ st 2 m v1 z v3 p w') (fillT a0 d1 d2 d3 dp v1 v2 v3 p) w)
  (h2 : ∀ m v1 v2 v3 p w,st 2 m v1 v2 v3 p w → wpOp P ops Q 10 (fun a' w' => S w' ∧ ∃ z,a' = fillT a0 d1 d2 d3 dp v1 v2 z p ∧ st 3 m v1 v2 z p w') (fillT a0 d1 d2 d3 dp v1 v2 v3 p) w)
  (hj : ∀ k v1 v2 v3 p w,st k false v1 v2 v3 p w → wpOp P ops Q 11 (fun a' w' => S w' ∧ ∃ z,a' = fillT a0 d1 d2 d3 dp v1 v2 v3 z ∧ st k true v1 v2 v3 z w') (fillT a0 d1 d2 d3 dp v1 v2 v3 p) w)
  (hfin : ∀ v1 v2 v3 p w,S w → st 3 true v1 v2 v3 p w → wpAnyH P .any ops Q S 1 (litL 3 true) (fillT a0 d1 d2 d3 dp v1 v2 v3 p) w)
  (ha : fillT a0 d1 d2 d3 dp undef undef undef undef = a0) (hS : S w) (hst : st 0 false undef undef undef undef w) : wpAnyH P .any ops Q S 5 (litL 0 false) a0 w := by
 refine beside (N := 3) (f0 := 1) (c := litC) (j := 11) (L := litL) (fun k m a w => ∃ v1 v2 v3 p,a = fillT a0 d1 d2 d3 dp v1 v2 v3 p ∧ st k m v1 v2 v3 p w) (litReady hr) litL1 litL2 ?hc ?hj ?hfin 4 0 false a0 w (by omega) rfl hS ⟨undef,undef,undef,undef,ha.symm,hst⟩
 case hc =>
  rintro k m a w hk ⟨v1,v2,v3,p,rfl,h⟩
  have : k = 0 ∨ k = 1 ∨ k = 2 := by omega
  rcases this with rfl | rfl | rfl
  ·exact wpOp_mono (fun a' w' ⟨s,z,e,f⟩ => ⟨s,z,v2,v3,p,e,f⟩) (h0 m v1 v2 v3 p w h)
  ·exact wpOp_mono (fun a' w' ⟨s,z,e,f⟩ => ⟨s,v1,z,v3,p,e,f⟩) (h1 m v1 v2 v3 p w h)
  ·exact wpOp_mono (fun a' w' ⟨s,z,e,f⟩ => ⟨s,v1,v2,z,p,e,f⟩) (h2 m v1 v2 v3 p w h)
 case hj =>
  rintro k a w hk ⟨v1,v2,v3,p,rfl,h⟩
  exact wpOp_mono (fun a' w' ⟨s,z,e,f⟩ => ⟨s,v1,v2,v3,z,e,f⟩) (hj k v1 v2 v3 p w h)
 case hfin =>
  rintro a w hS ⟨v1,v2,v3,p,rfl,h⟩
  exact hfin v1 v2 v3 p w hS h
theorem box_put {w : World} {b : Nat} {s ee : Int} {ad : Option Addr} {l c e : Nat} {z : Int} (hb : Z3b w b) (hn : NumK w (.agg #[.int .i64 s,.slice ad l c,.int .i64 ee]) e z) :
  NumK (((w.setCell ⟨b,0,none⟩ (.int .i64 s)).setCell ⟨b,1,none⟩ (.slice ad l c)).setCell ⟨b,2,none⟩ (.int .i64 ee)) (.agg #[.int .i64 s,.slice ad l c,.int .i64 ee]) e z ∧ Box3 tNum (((w.setCell ⟨b,0,none⟩ (.int .i64 s)).setCell ⟨b,1,none⟩ (.slice ad l c)).setCell ⟨b,2,none⟩ (.int .i64 ee)) b (.int .i64 s) (.slice ad l c) (.int .i64 ee) :=
 ⟨hn.put hb _ _ _,Box3.put hb _ _ _⟩
theorem below_put {w0 w : World} {B b : Nat} {x y z : Value} (h : Below B w0 w) (hb : B ≤ b) : Below B w0 (((w.setCell ⟨b,0,none⟩ x).setCell ⟨b,1,none⟩ y).setCell ⟨b,2,none⟩ z) :=
 ((h.setCell (p := ⟨b,0,none⟩) hb _).setCell (p := ⟨b,1,none⟩) hb _).setCell (p := ⟨b,2,none⟩) hb _
theorem numZ {f : FuncId} {args : Array Value} {w : World} {e : Nat} {k : Int} (h : Calls Tryz.prog f args w (NumR e k w)) : Calls Tryz.prog f args w fun r w' => ∃ z,r = .returned z ∧ NumK w' z e k ∧ Below w.heap.size w w' := by
 refine h.mono ?_
 rintro r w' ⟨ee,ad,l,c,rfl,h1,h2⟩
 exact ⟨_,rfl,h1.out,h2.out⟩
theorem turn05 {a b c : Pt} {w : World} (ha : pt64 a ∧ ptOK a = true) (hb : pt64 b ∧ ptOK b = true) (hc : pt64 c ∧ ptOK c = true) :
  Calls Tryz.prog 90 #[V a,V b,V c] w fun r w' => ∃ (ee : Int) (ad : Option Addr) (l cp : Nat),r = .returned (.agg #[.int .i64 (sgnI (det a b c)),.slice ad l cp,.int .i64 ee]) ∧ Hid (Below w.heap.size w w') := by
 have co : ∀ {p : Pt},pt64 p ∧ ptOK p = true → (p.1 < 2 ^ 64 ∧ coordB p.1 = true) ∧ (p.2 < 2 ^ 64 ∧ coordB p.2 = true) := by
  rintro p ⟨h1,h2⟩
  unfold ptOK at h2
  rw [Bool.and_eq_true] at h2
  exact ⟨⟨h1.1,h2.1⟩,⟨h1.2,h2.2⟩⟩
 obtain ⟨k1,hk1⟩ : ∃ k,Hid ((fval b.1 - fval a.1) * 2 ^ 3726 = k) := ⟨(fval b.1 - fval a.1) * 2 ^ 3726,rfl⟩
 obtain ⟨k2,hk2⟩ : ∃ k,Hid ((fval c.2 - fval a.2) * 2 ^ 3726 = k) := ⟨(fval c.2 - fval a.2) * 2 ^ 3726,rfl⟩
 obtain ⟨k3,hk3⟩ : ∃ k,Hid ((fval b.2 - fval a.2) * 2 ^ 3726 = k) := ⟨(fval b.2 - fval a.2) * 2 ^ 3726,rfl⟩
 obtain ⟨k4,hk4⟩ : ∃ k,Hid ((fval c.1 - fval a.1) * 2 ^ 3726 = k) := ⟨(fval c.1 - fval a.1) * 2 ^ 3726,rfl⟩
 have HL1 : Hid (∀ W,Calls Tryz.prog 124 #[.float .f64 b.1,.float .f64 a.1] W fun r w' => ∃ z,r = .returned z ∧ NumK w' z 8 k1 ∧ Below W.heap.size W w') := fun W => numZ (by rw [← hk1.out]; exact less05 (co hb).1 (co ha).1)
 have HL2 : Hid (∀ W,Calls Tryz.prog 124 #[.float .f64 c.2,.float .f64 a.2] W fun r w' => ∃ z,r = .returned z ∧ NumK w' z 8 k2 ∧ Below W.heap.size W w') := fun W => numZ (by rw [← hk2.out]; exact less05 (co hc).2 (co ha).2)
 have HL3 : Hid (∀ W,Calls Tryz.prog 124 #[.float .f64 b.2,.float .f64 a.2] W fun r w' => ∃ z,r = .returned z ∧ NumK w' z 8 k3 ∧ Below W.heap.size W w') := fun W => numZ (by rw [← hk3.out]; exact less05 (co hb).2 (co ha).2)
 have HL4 : Hid (∀ W,Calls Tryz.prog 124 #[.float .f64 c.1,.float .f64 a.1] W fun r w' => ∃ z,r = .returned z ∧ NumK w' z 8 k4 ∧ Below W.heap.size W w') := fun W => numZ (by rw [← hk4.out]; exact less05 (co hc).1 (co ha).1)
 have HMU : Hid (∀ W u v x y,NumK W u 8 x → NumK W v 8 y → Calls Tryz.prog 123 #[u,v] W fun r w' => ∃ z q,r = .returned z ∧ NumK w' z 16 q ∧ q * (BB ^ 200 : Nat) = x * y ∧ Below W.heap.size W w') := fun W u v x y hu hv => mulK hu hv (by omega)
 have HSG : Hid (∀ p q : Int,p * (BB ^ 200 : Nat) = k1 * k2 → q * (BB ^ 200 : Nat) = k3 * k4 → sgnI (p - q) = sgnI (det a b c)) := fun p q h1 h2 => turn_val (by rw [hk1.out,hk2.out]; exact h1) (by rw [hk3.out,hk4.out]; exact h2)
 generalize sgnI (det a b c) = sg at *
 clear hk1 hk2 hk3 hk4 ha hb hc co
 unfold V at *
 go_enter Tryz.func90,Tryz.ntmps90
 go_wp2
 obtain ⟨WX,hWX⟩ : ∃ WX : World,WX = (((w.alloc (.cells #[.float .f64 a.1,.float .f64 a.2] 68)).alloc (.cells #[.float .f64 b.1,.float .f64 b.2] 68)).alloc (.cells #[.float .f64 c.1,.float .f64 c.2] 68)).alloc zNum := ⟨_,rfl⟩
 have hW0 := hWX
 unfold zNum at hW0
 rw [← hW0]
 have HBX : Hid (Below w.heap.size w WX) := by rw [hWX]; exact (((Below.refl _ w).alloc (Nat.le_refl _) _).alloc (by simp) _).alloc (by simp <;> omega) _ |>.alloc (by simp <;> omega) _
 have HPX : Hid (P6 WX w.heap.size a b c) := by rw [hWX]; exact (P6.made w a b c _).below ((Below.refl _ _).alloc (Nat.le_refl _) _)
 have HRX : Hid (Z3b WX (w.heap.size + 1 + 1 + 1)) := by
  rw [hWX]
  have := Box3.new (((w.alloc (.cells #[.float .f64 a.1,.float .f64 a.2] 68)).alloc (.cells #[.float .f64 b.1,.float .f64 b.2] 68)).alloc (.cells #[.float .f64 c.1,.float .f64 c.2] 68)) (.int .i64 0) (.slice none 0 0) (.int .i64 0) tNum
  rwa [show (((w.alloc (.cells #[.float .f64 a.1,.float .f64 a.2] 68)).alloc (.cells #[.float .f64 b.1,.float .f64 b.2] 68)).alloc (.cells #[.float .f64 c.1,.float .f64 c.2] 68)).heap.size = w.heap.size + 1 + 1 + 1 from by simp] at this
 clear hW0 hWX
 rename (∀ (a : Act) (w : World),Code.wp _ _ _ a w → _) => hcA
 have HCA := Lib.hid (fun (_ : Unit) => hcA)
 clear hcA
 refine wp_region_held_drew (S := (fun W => W.cell? ⟨w.heap.size,0,none⟩ = some (.float .f64 a.1) ∧ W.cell? ⟨w.heap.size,1,none⟩ = some (.float .f64 a.2) ∧ W.cell? ⟨w.heap.size + 1,0,none⟩ = some (.float .f64 b.1) ∧ W.cell? ⟨w.heap.size + 1,1,none⟩ = some (.float .f64 b.2) ∧ W.cell? ⟨w.heap.size + 1 + 1,0,none⟩ = some (.float .f64 c.1) ∧ W.cell? ⟨w.heap.size + 1 + 1,1,none⟩ = some (.float .f64 c.2))) (by kernel_rfl) (HPX.out.below (Below.refl _ WX).drew) (fun hHeld => ?_)
 refine wpAnyH_take (i := 0) (oi := ⟨some 9,_,_,_,_,none⟩) (v := ?_) rfl (by kernel_rfl) (by kernel_rfl) (by kernel_rfl) (fun _ _ _ h => h) (Or.inl ⟨by rfl,?_⟩) (by assumption) ?_
 rotate_left
 ·intro W hSw; (try dsimp only at hSw); go_simp; try with_reducible rfl
 simp only [Act.put,List.setIfInBounds_toArray,List.set_cons_zero,List.set_cons_succ]
 refine wpAnyH_take (i := 1) (oi := ⟨some 10,_,_,_,_,none⟩) (v := ?_) rfl (by kernel_rfl) (by kernel_rfl) (by kernel_rfl) (fun _ _ _ h => h) (Or.inl ⟨by rfl,?_⟩) (by assumption) ?_
 rotate_left
 ·intro W hSw; (try dsimp only at hSw); go_simp; try with_reducible rfl
 simp only [Act.put,List.setIfInBounds_toArray,List.set_cons_zero,List.set_cons_succ]
 refine wpAnyH_take (i := 2) (oi := ⟨some 11,_,_,_,_,none⟩) (v := ?_) rfl (by kernel_rfl) (by kernel_rfl) (by kernel_rfl) (fun _ _ _ h => h) (Or.inl ⟨by rfl,?_⟩) (by assumption) ?_
 rotate_left
 ·intro W hSw; (try dsimp only at hSw); go_simp; try with_reducible rfl
 simp only [Act.put,List.setIfInBounds_toArray,List.set_cons_zero,List.set_cons_succ]
 refine wpAnyH_take (i := 3) (oi := ⟨some 12,_,_,_,_,none⟩) (v := ?_) rfl (by kernel_rfl) (by kernel_rfl) (by kernel_rfl) (fun _ _ _ h => h) (Or.inl ⟨by rfl,?_⟩) (by assumption) ?_
 rotate_left
 ·intro W hSw; (try dsimp only at hSw); go_simp; try with_reducible rfl
 simp only [Act.put,List.setIfInBounds_toArray,List.set_cons_zero,List.set_cons_succ]
 refine wpAnyH_take (i := 5) (oi := ⟨some 14,_,_,_,_,none⟩) (v := ?_) rfl (by kernel_rfl) (by kernel_rfl) (by kernel_rfl) (fun _ _ _ h => h) (Or.inl ⟨by rfl,?_⟩) (by assumption) ?_
 rotate_left
 ·intro W hSw; (try dsimp only at hSw); go_simp; try with_reducible rfl
 simp only [Act.put,List.setIfInBounds_toArray,List.set_cons_zero,List.set_cons_succ]
 refine wpAnyH_take (i := 6) (oi := ⟨some 15,_,_,_,_,none⟩) (v := ?_) rfl (by kernel_rfl) (by kernel_rfl) (by kernel_rfl) (fun _ _ _ h => h) (Or.inl ⟨by rfl,?_⟩) (by assumption) ?_
 rotate_left
 ·intro W hSw; (try dsimp only at hSw); go_simp; try with_reducible rfl
 simp only [Act.put,List.setIfInBounds_toArray,List.set_cons_zero,List.set_cons_succ]
 refine wpAnyH_take (i := 7) (oi := ⟨some 16,_,_,_,_,none⟩) (v := ?_) rfl (by kernel_rfl) (by kernel_rfl) (by kernel_rfl) (fun _ _ _ h => h) (Or.inl ⟨by rfl,?_⟩) (by assumption) ?_
 rotate_left
 ·intro W hSw; (try dsimp only at hSw); go_simp; try with_reducible rfl
 simp only [Act.put,List.setIfInBounds_toArray,List.set_cons_zero,List.set_cons_succ]
 refine wpAnyH_take (i := 8) (oi := ⟨some 17,_,_,_,_,none⟩) (v := ?_) rfl (by kernel_rfl) (by kernel_rfl) (by kernel_rfl) (fun _ _ _ h => h) (Or.inl ⟨by rfl,?_⟩) (by assumption) ?_
 rotate_left
 ·intro W hSw; (try dsimp only at hSw); go_simp; try with_reducible rfl
 simp only [Act.put,List.setIfInBounds_toArray,List.set_cons_zero,List.set_cons_succ]
 change wpAnyH _ _ _ _ _ 5 (litL 0 false) _ _
 refine lit (d1 := 13) (d2 := 18) (d3 := 19) (dp := 7) (GT WX k1 k2) (by kernel_rfl) ?h0 ?h1 ?h2 ?hj ?hfin (by simp only [fillT,Act.put,List.setIfInBounds_toArray,List.set_cons_zero,List.set_cons_succ]) hHeld ⟨(Below.refl _ WX).drew,fun h => absurd h (by decide),fun h => absurd h (by decide),fun h => absurd h (by decide),fun h => (nomatch h)⟩
 case h0 =>
  intro m v1 v2 v3 p W hG
  have HG := Lib.hid hG
  clear hG
  refine wpOp_step (o := ⟨some 13,_,_,_,_,none⟩) rfl (fun K' hK => ?_)
  have HK := Lib.hid hK
  clear hK
  simp only [fillT,Act.put,List.setIfInBounds_toArray,List.set_cons_zero,List.set_cons_succ]
  go_simp
  go_at_call 124
  (with_reducible refine (HL1.out W).mono ?_)
  rintro r W' ⟨z,rfl,hz,hb⟩
  have g := HG.out.c1 hb hz
  refine HK.out _ _ ⟨HPX.out.below g.bel,z,?_,g⟩
  ·simp only [fillT,Act.put,List.setIfInBounds_toArray,List.set_cons_zero,List.set_cons_succ]
 case h1 =>
  intro m v1 v2 v3 p W hG
  have HG := Lib.hid hG
  clear hG
  refine wpOp_step (o := ⟨some 18,_,_,_,_,none⟩) rfl (fun K' hK => ?_)
  have HK := Lib.hid hK
  clear hK
  simp only [fillT,Act.put,List.setIfInBounds_toArray,List.set_cons_zero,List.set_cons_succ]
  go_simp
  go_at_call 124
  (with_reducible refine (HL2.out W).mono ?_)
  rintro r W' ⟨z,rfl,hz,hb⟩
  have g := HG.out.c2 hb hz
  refine HK.out _ _ ⟨HPX.out.below g.bel,z,?_,g⟩
  ·simp only [fillT,Act.put,List.setIfInBounds_toArray,List.set_cons_zero,List.set_cons_succ]
 case h2 =>
  intro m v1 v2 v3 p W hG
  have HG := Lib.hid hG
  clear hG
  refine wpOp_step (o := ⟨some 19,_,_,_,_,none⟩) rfl (fun K' hK => ?_)
  have HK := Lib.hid hK
  clear hK
  simp only [fillT,Act.put,List.setIfInBounds_toArray,List.set_cons_zero,List.set_cons_succ]
  go_simp
  go_at_call 123
  (with_reducible refine (HMU.out W _ _ _ _ (HG.out.n1 (by decide)) (HG.out.n2 (by decide))).mono ?_)
  rintro r W' ⟨z,q,rfl,hz,hq,hb⟩
  have g := HG.out.c3 hb hz hq
  refine HK.out _ _ ⟨HPX.out.below g.bel,z,?_,g⟩
  ·simp only [fillT,Act.put,List.setIfInBounds_toArray,List.set_cons_zero,List.set_cons_succ]
 case hj =>
  intro k v1 v2 v3 p W hG
  have HG := Lib.hid hG
  clear hG
  refine wpOp_step (o := ⟨some 7,_,_,_,_,none⟩) rfl (fun K' hK => ?_)
  have HK := Lib.hid hK
  clear hK
  simp only [fillT,Act.put,List.setIfInBounds_toArray,List.set_cons_zero,List.set_cons_succ]
  go_simp
  refine HK.out _ _ ⟨HPX.out.below HG.out.box.bel,_,?_,HG.out.box⟩
  simp only [fillT,Act.put,List.setIfInBounds_toArray,List.set_cons_zero,List.set_cons_succ]
 case hfin =>
  intro v1 v2 v3 p W hS hG
  obtain ⟨q1,hn,hq⟩ := hG.n3 (by decide)
  obtain ⟨b1,rfl,lb,hbx⟩ := hG.bx rfl
  obtain ⟨s1,e1,ad1,l1,c1,rfl,hs⟩ := hn.agg
  have HB := Lib.hid hbx
  obtain ⟨x0,x1,x2⟩ := hbx.c
  have y0 := hbx.fz 0
  have y1 := hbx.fz 1
  have y2 := hbx.fz 2
  have HN := Lib.hid (box_put hbx hn)
  have HBL := Lib.hid (below_put (x := .int .i64 s1) (y := .slice ad1 l1 c1) (z := .int .i64 e1) hG.bel lb)
  have HQ1 := Lib.hid hq
  have HS1 := Lib.hid hs
  obtain ⟨W1,hWN⟩ : ∃ WN : World,WN = ((W.setCell ⟨b1,0,none⟩ (.int .i64 s1)).setCell ⟨b1,1,none⟩ (.slice ad1 l1 c1)).setCell ⟨b1,2,none⟩ (.int .i64 e1) := ⟨_,rfl⟩
  rw [← hWN] at HN HBL
  have HW := Lib.hid hWN
  clear hWN hq hs hn hbx hG lb
  simp only [fillT,Act.put,List.setIfInBounds_toArray,List.set_cons_zero,List.set_cons_succ]
  refine wpAnyH_ready (rs := [12]) (by kernel_rfl) (by simp) (AllReadyH.cons (o := ⟨none,_,_,_,_,none⟩) rfl (fun K hK => ?_) AllReadyH.nil)
  have HK := Lib.hid hK
  clear hK
  go_simp
  clear x0 x1 x2 y0 y1 y2
  refine HK.out.out _ _ ?_ (fun _ => ?_)
  ·change _ ∧ _
   rw [← HW.out]
   exact HPX.out.below HBL.out
  rw [← HW.out]
  refine wpAnyH_done (by kernel_rfl) ?_ _
  clear hS HW
  have HP1 := Lib.hid (HPX.out.below HBL.out)
  have HX1 := Lib.hid HN.out.2
  have HN1 := Lib.hid HN.out.1
  have HR1 := Lib.hid (Box3.below HRX.out HBL.out)
  have HBW1 := Lib.hid (HBX.out.trans (HBL.out.mono HBX.out.size))
  clear HN HBL HB HK hHeld
  have hcA := HCA.out ()
  go_wp2
  try clear hcA
  clear HCA
  rename (∀ (a : Act) (w : World),Code.wp _ _ _ a w → _) => hcB
  have HCB := Lib.hid (fun (_ : Unit) => hcB)
  clear hcB
  refine wp_region_held_drew (S := (fun W => W.cell? ⟨w.heap.size,0,none⟩ = some (.float .f64 a.1) ∧ W.cell? ⟨w.heap.size,1,none⟩ = some (.float .f64 a.2) ∧ W.cell? ⟨w.heap.size + 1,0,none⟩ = some (.float .f64 b.1) ∧ W.cell? ⟨w.heap.size + 1,1,none⟩ = some (.float .f64 b.2) ∧ W.cell? ⟨w.heap.size + 1 + 1,0,none⟩ = some (.float .f64 c.1) ∧ W.cell? ⟨w.heap.size + 1 + 1,1,none⟩ = some (.float .f64 c.2))) (by kernel_rfl) (HP1.out.below (Below.refl _ W1).drew) (fun hHeld => ?_)
  refine wpAnyH_take (i := 0) (oi := ⟨some 20,_,_,_,_,none⟩) (v := ?_) rfl (by kernel_rfl) (by kernel_rfl) (by kernel_rfl) (fun _ _ _ h => h) (Or.inl ⟨by rfl,?_⟩) (by assumption) ?_
  rotate_left
  ·intro W hSw; (try dsimp only at hSw); go_simp; try with_reducible rfl
  simp only [Act.put,List.setIfInBounds_toArray,List.set_cons_zero,List.set_cons_succ]
  refine wpAnyH_take (i := 1) (oi := ⟨some 21,_,_,_,_,none⟩) (v := ?_) rfl (by kernel_rfl) (by kernel_rfl) (by kernel_rfl) (fun _ _ _ h => h) (Or.inl ⟨by rfl,?_⟩) (by assumption) ?_
  rotate_left
  ·intro W hSw; (try dsimp only at hSw); go_simp; try with_reducible rfl
  simp only [Act.put,List.setIfInBounds_toArray,List.set_cons_zero,List.set_cons_succ]
  refine wpAnyH_take (i := 2) (oi := ⟨some 22,_,_,_,_,none⟩) (v := ?_) rfl (by kernel_rfl) (by kernel_rfl) (by kernel_rfl) (fun _ _ _ h => h) (Or.inl ⟨by rfl,?_⟩) (by assumption) ?_
  rotate_left
  ·intro W hSw; (try dsimp only at hSw); go_simp; try with_reducible rfl
  simp only [Act.put,List.setIfInBounds_toArray,List.set_cons_zero,List.set_cons_succ]
  refine wpAnyH_take (i := 3) (oi := ⟨some 23,_,_,_,_,none⟩) (v := ?_) rfl (by kernel_rfl) (by kernel_rfl) (by kernel_rfl) (fun _ _ _ h => h) (Or.inl ⟨by rfl,?_⟩) (by assumption) ?_
  rotate_left
  ·intro W hSw; (try dsimp only at hSw); go_simp; try with_reducible rfl
  simp only [Act.put,List.setIfInBounds_toArray,List.set_cons_zero,List.set_cons_succ]
  refine wpAnyH_take (i := 5) (oi := ⟨some 25,_,_,_,_,none⟩) (v := ?_) rfl (by kernel_rfl) (by kernel_rfl) (by kernel_rfl) (fun _ _ _ h => h) (Or.inl ⟨by rfl,?_⟩) (by assumption) ?_
  rotate_left
  ·intro W hSw; (try dsimp only at hSw); go_simp; try with_reducible rfl
  simp only [Act.put,List.setIfInBounds_toArray,List.set_cons_zero,List.set_cons_succ]
  refine wpAnyH_take (i := 6) (oi := ⟨some 26,_,_,_,_,none⟩) (v := ?_) rfl (by kernel_rfl) (by kernel_rfl) (by kernel_rfl) (fun _ _ _ h => h) (Or.inl ⟨by rfl,?_⟩) (by assumption) ?_
  rotate_left
  ·intro W hSw; (try dsimp only at hSw); go_simp; try with_reducible rfl
  simp only [Act.put,List.setIfInBounds_toArray,List.set_cons_zero,List.set_cons_succ]
  refine wpAnyH_take (i := 7) (oi := ⟨some 27,_,_,_,_,none⟩) (v := ?_) rfl (by kernel_rfl) (by kernel_rfl) (by kernel_rfl) (fun _ _ _ h => h) (Or.inl ⟨by rfl,?_⟩) (by assumption) ?_
  rotate_left
  ·intro W hSw; (try dsimp only at hSw); go_simp; try with_reducible rfl
  simp only [Act.put,List.setIfInBounds_toArray,List.set_cons_zero,List.set_cons_succ]
  refine wpAnyH_take (i := 8) (oi := ⟨some 28,_,_,_,_,none⟩) (v := ?_) rfl (by kernel_rfl) (by kernel_rfl) (by kernel_rfl) (fun _ _ _ h => h) (Or.inl ⟨by rfl,?_⟩) (by assumption) ?_
  rotate_left
  ·intro W hSw; (try dsimp only at hSw); go_simp; try with_reducible rfl
  simp only [Act.put,List.setIfInBounds_toArray,List.set_cons_zero,List.set_cons_succ]
  change wpAnyH _ _ _ _ _ 5 (litL 0 false) _ _
  refine lit (d1 := 24) (d2 := 29) (d3 := 30) (dp := 8) (GT W1 k3 k4) (by kernel_rfl) ?h0 ?h1 ?h2 ?hj ?hfin (by simp only [fillT,Act.put,List.setIfInBounds_toArray,List.set_cons_zero,List.set_cons_succ]) hHeld ⟨(Below.refl _ W1).drew,fun h => absurd h (by decide),fun h => absurd h (by decide),fun h => absurd h (by decide),fun h => (nomatch h)⟩
  case h0 =>
   intro m v1 v2 v3 p W hG
   have HG := Lib.hid hG
   clear hG
   refine wpOp_step (o := ⟨some 24,_,_,_,_,none⟩) rfl (fun K' hK => ?_)
   have HK := Lib.hid hK
   clear hK
   simp only [fillT,Act.put,List.setIfInBounds_toArray,List.set_cons_zero,List.set_cons_succ]
   go_simp
   go_at_call 124
   (with_reducible refine (HL3.out W).mono ?_)
   rintro r W' ⟨z,rfl,hz,hb⟩
   have g := HG.out.c1 hb hz
   refine HK.out _ _ ⟨HP1.out.below g.bel,z,?_,g⟩
   ·simp only [fillT,Act.put,List.setIfInBounds_toArray,List.set_cons_zero,List.set_cons_succ]
  case h1 =>
   intro m v1 v2 v3 p W hG
   have HG := Lib.hid hG
   clear hG
   refine wpOp_step (o := ⟨some 29,_,_,_,_,none⟩) rfl (fun K' hK => ?_)
   have HK := Lib.hid hK
   clear hK
   simp only [fillT,Act.put,List.setIfInBounds_toArray,List.set_cons_zero,List.set_cons_succ]
   go_simp
   go_at_call 124
   (with_reducible refine (HL4.out W).mono ?_)
   rintro r W' ⟨z,rfl,hz,hb⟩
   have g := HG.out.c2 hb hz
   refine HK.out _ _ ⟨HP1.out.below g.bel,z,?_,g⟩
   ·simp only [fillT,Act.put,List.setIfInBounds_toArray,List.set_cons_zero,List.set_cons_succ]
  case h2 =>
   intro m v1 v2 v3 p W hG
   have HG := Lib.hid hG
   clear hG
   refine wpOp_step (o := ⟨some 30,_,_,_,_,none⟩) rfl (fun K' hK => ?_)
   have HK := Lib.hid hK
   clear hK
   simp only [fillT,Act.put,List.setIfInBounds_toArray,List.set_cons_zero,List.set_cons_succ]
   go_simp
   go_at_call 123
   (with_reducible refine (HMU.out W _ _ _ _ (HG.out.n1 (by decide)) (HG.out.n2 (by decide))).mono ?_)
   rintro r W' ⟨z,q,rfl,hz,hq,hb⟩
   have g := HG.out.c3 hb hz hq
   refine HK.out _ _ ⟨HP1.out.below g.bel,z,?_,g⟩
   ·simp only [fillT,Act.put,List.setIfInBounds_toArray,List.set_cons_zero,List.set_cons_succ]
  case hj =>
   intro k v1 v2 v3 p W hG
   have HG := Lib.hid hG
   clear hG
   refine wpOp_step (o := ⟨some 8,_,_,_,_,none⟩) rfl (fun K' hK => ?_)
   have HK := Lib.hid hK
   clear hK
   simp only [fillT,Act.put,List.setIfInBounds_toArray,List.set_cons_zero,List.set_cons_succ]
   go_simp
   refine HK.out _ _ ⟨HP1.out.below HG.out.box.bel,_,?_,HG.out.box⟩
   simp only [fillT,Act.put,List.setIfInBounds_toArray,List.set_cons_zero,List.set_cons_succ]
  case hfin =>
   intro v1 v2 v3 p W hS hG
   obtain ⟨q2,hn,hq⟩ := hG.n3 (by decide)
   obtain ⟨b2,rfl,lb,hbx⟩ := hG.bx rfl
   obtain ⟨s2,e2,ad2,l2,c2,rfl,hs⟩ := hn.agg
   have HB := Lib.hid hbx
   obtain ⟨x0,x1,x2⟩ := hbx.c
   have y0 := hbx.fz 0
   have y1 := hbx.fz 1
   have y2 := hbx.fz 2
   have HN := Lib.hid (box_put hbx hn)
   have HBL := Lib.hid (below_put (x := .int .i64 s2) (y := .slice ad2 l2 c2) (z := .int .i64 e2) hG.bel lb)
   have HQ2 := Lib.hid hq
   have HS2 := Lib.hid hs
   obtain ⟨W2,hWN⟩ : ∃ WN : World,WN = ((W.setCell ⟨b2,0,none⟩ (.int .i64 s2)).setCell ⟨b2,1,none⟩ (.slice ad2 l2 c2)).setCell ⟨b2,2,none⟩ (.int .i64 e2) := ⟨_,rfl⟩
   rw [← hWN] at HN HBL
   have HW := Lib.hid hWN
   clear hWN hq hs hn hbx hG lb
   simp only [fillT,Act.put,List.setIfInBounds_toArray,List.set_cons_zero,List.set_cons_succ]
   refine wpAnyH_ready (rs := [12]) (by kernel_rfl) (by simp) (AllReadyH.cons (o := ⟨none,_,_,_,_,none⟩) rfl (fun K hK => ?_) AllReadyH.nil)
   have HK := Lib.hid hK
   clear hK
   go_simp
   clear x0 x1 x2 y0 y1 y2
   refine HK.out.out _ _ ?_ (fun _ => ?_)
   ·change _ ∧ _
    rw [← HW.out]
    exact HP1.out.below HBL.out
   rw [← HW.out]
   refine wpAnyH_done (by kernel_rfl) ?_ _
   clear hS HW
   have HR2 := Lib.hid (Box3.below HR1.out HBL.out)
   have HX1' := Lib.hid (Box3.below HX1.out HBL.out)
   have HN1' := Lib.hid (HN1.out.below HBL.out)
   have HBW2 := Lib.hid (HBW1.out.trans (HBL.out.mono HBW1.out.size))
   have HX2 := Lib.hid HN.out.2
   have HN2 := Lib.hid HN.out.1
   have HSUB : Hid (Calls Tryz.prog 125 #[.agg #[.int .i64 s1,.slice ad1 l1 c1,.int .i64 e1],.agg #[.int .i64 s2,.slice ad2 l2 c2,.int .i64 e2]] W2 (NumR 17 (q1 - q2) W2)) := numR (by refine (subK HN1'.out HN2.out (by omega)).mono ?_; rintro r w' ⟨z,rfl,h1,h2⟩; exact ⟨z,rfl,h1.out,h2.out⟩)
   obtain ⟨x0,x1,x2⟩ := HX1'.out.c
   obtain ⟨y0,y1,y2⟩ := HX2.out.c
   have HSS := Lib.hid (HSG.out q1 q2 HQ1.out HQ2.out)
   try clear hHeld
   clear HN HBL HB HK HX1 HN1 HR1 HP1 HPX HRX HSG
   have hcB := HCB.out ()
   go_wp2_with (go_at_call 125; (with_reducible refine HSUB.out.mono ?_); rintro r w3 ⟨ee3,ad3,l3,c3,rfl,HZ3,HB3⟩; clear x0 x1 x2 y0 y1 y2; have HR3 := Lib.hid (Box3.below HR2.out HB3.out); obtain ⟨n0,n1,n2⟩ := HR3.out.c; have f0 := HR3.out.fz 0; have f1 := HR3.out.fz 1; have f2 := HR3.out.fz 2)
   obtain ⟨g0,g1,g2⟩ := (HR3.out.put (.int .i64 (sgnI (q1 - q2))) (.slice ad3 l3 c3) (.int .i64 ee3)).c
   refine bodyPost_ret (by simp [results,Tryz.results90,go_sem,g0,g1,g2]; try rfl) rfl ?_
   rw [HSS.out]
   exact ⟨_,_,_,_,rfl,below_put (bseq HBW2.out HB3.out) (by omega)⟩
theorem left05 {a b c : Pt} (ha : pt64 a) (hb : pt64 b) (hc : pt64 c) (w : World) :
  Calls Tryz.prog 54 #[V a,V b,V c] w fun r w' => r = .returned (.int .i64 (signI a b c)) ∧ Below w.heap.size w w' := by
 have HA : Hid (∀ W,Calls Tryz.prog 81 #[.agg #[.float .f64 a.1,.float .f64 a.2]] W fun r w' => r = .returned (.bool (ptOK a)) ∧ Below W.heap.size W w') := fun W => may05 ha
 have HB : Hid (∀ W,Calls Tryz.prog 81 #[.agg #[.float .f64 b.1,.float .f64 b.2]] W fun r w' => r = .returned (.bool (ptOK b)) ∧ Below W.heap.size W w') := fun W => may05 hb
 have HC : Hid (∀ W,Calls Tryz.prog 81 #[.agg #[.float .f64 c.1,.float .f64 c.2]] W fun r w' => r = .returned (.bool (ptOK c)) ∧ Below W.heap.size W w') := fun W => may05 hc
 have HT : Hid (ptOK a = true → ptOK b = true → ptOK c = true → ∀ W,Calls Tryz.prog 90 #[.agg #[.float .f64 a.1,.float .f64 a.2],.agg #[.float .f64 b.1,.float .f64 b.2],.agg #[.float .f64 c.1,.float .f64 c.2]] W fun r w' => ∃ (ee : Int) (ad : Option Addr) (l cp : Nat),r = .returned (.agg #[.int .i64 (sgnI (det a b c)),.slice ad l cp,.int .i64 ee]) ∧ Hid (Below W.heap.size W w')) := fun h1 h2 h3 W => turn05 ⟨ha,h1⟩ ⟨hb,h2⟩ ⟨hc,h3⟩
 have HS : Hid (signI a b c = if (ptOK a && (ptOK b && ptOK c)) = true then sgnI (det a b c) else 0) := by unfold Hid signI; simp
 have HP := Lib.hid (P6.made w a b c 68)
 have HB0 : Hid (Below w.heap.size w (((w.alloc (.cells #[.float .f64 a.1,.float .f64 a.2] 68)).alloc (.cells #[.float .f64 b.1,.float .f64 b.2] 68)).alloc (.cells #[.float .f64 c.1,.float .f64 c.2] 68))) := (((Below.refl _ w).alloc (Nat.le_refl _) _).alloc (by simp) _).alloc (by simp; omega) _
 have hf := fun e d l cp W => num_field0 (sgnI (det a b c)) e d l cp W
 generalize signI a b c = sg at *
 generalize sgnI (det a b c) = dt at *
 generalize ptOK a = oa at *
 generalize ptOK b = ob at *
 generalize ptOK c = oc at *
 unfold V at *
 clear ha hb hc
 have h4 : oa = false ∨ (oa = true ∧ ob = false) ∨ (oa = true ∧ ob = true ∧ oc = false) ∨ (oa = true ∧ ob = true ∧ oc = true) := by cases oa <;> cases ob <;> cases oc <;> simp
 rcases h4 with rfl | ⟨rfl,rfl⟩ | ⟨rfl,rfl,rfl⟩ | ⟨rfl,rfl,rfl⟩
 all_goals
  have HS2 : Hid (sg = _) := HS.out
  simp only [Bool.false_and,Bool.and_false,Bool.true_and,Bool.and_true,Bool.false_eq_true,if_false,if_true] at HS2
  try have HT2 := Lib.hid (HT.out rfl rfl rfl)
  clear HT
  go_enter Tryz.func54,Tryz.ntmps54
  go_wp2_with (first
   |(go_at_call 81; (with_reducible refine (HA.out _).mono ?_); rintro r w1 ⟨rfl,hb1⟩; have p1 := HP.out.below hb1; have P1 := Lib.hid p1; obtain ⟨q1,q2,q3,q4,q5,q6⟩ := p1; have B1 := Lib.hid (bseq HB0.out hb1))
   |(go_at_call 81; (with_reducible refine (HB.out _).mono ?_); rintro r w2 ⟨rfl,hb2⟩; clear q1 q2 q3 q4 q5 q6; have p2 := P1.out.below hb2; have P2 := Lib.hid p2; obtain ⟨q1,q2,q3,q4,q5,q6⟩ := p2; have B2 := Lib.hid (bseq B1.out hb2))
   |(go_at_call 81; (with_reducible refine (HC.out _).mono ?_); rintro r w3 ⟨rfl,hb3⟩; clear q1 q2 q3 q4 q5 q6; have p3 := P2.out.below hb3; obtain ⟨q1,q2,q3,q4,q5,q6⟩ := p3; have B3 := Lib.hid (bseq B2.out hb3))
   |(go_at_call 90; (with_reducible refine (HT2.out _).mono ?_); rintro r w4 ⟨ee,ad,l,cp,rfl,hb4⟩; have B4 := Lib.hid (bseq B3.out hb4.out)))
  go_ret
  rw [HS2.out]
  first
   | exact ⟨rfl,B4.out⟩
   | exact ⟨rfl,B3.out⟩
   | exact ⟨rfl,B2.out⟩
   | exact ⟨rfl,B1.out⟩
end Go.Proofs.YtbagikgpgdlkcaaGreatDoor
namespace Go.Proofs.YtbagikgpgdlkcaaGreatDoor
open Go.RowKit Tvf Go.Maps Go.WideMaps
theorem all07 (l : List Pt) (ad : Option Addr) (cap : Nat) (h64 : ∀ p,p ∈ l → pt64 p) (w : World) (hc : PCells w ad l) :
  Calls Tryz.prog 38 #[.slice ad l.length cap] w fun r w' => ∃ i : Int,r = .returned (.tuple #[.int .i64 i,.int .i64 (allCode l)]) ∧ Below w.heap.size w w' := by
 have HC := Lib.hid hc
 have H64 := Lib.hid h64
 clear hc h64
 by_cases hl : 1048576 < l.length
 ·have e : allCode l = 3 := by unfold allCode; rw [if_pos hl]
  rw [e]
  go_enter Tryz.func38,Tryz.ntmps38
  go_wp2
  go_ret2
  exact ⟨0,rfl,Below.refl _ _⟩
 ·have HA : Hid (allCode l = if l.all ptOK then 0 else 10) := by unfold Hid allCode; rw [if_neg hl]
  go_enter Tryz.func38,Tryz.ntmps38
  go_wp2
  go_loopw [4] (fun i wr => ∃ n : Nat,n ≤ l.length ∧ i = .int .i64 n ∧ Hid ((l.take n).all ptOK = true) ∧ Below w.heap.size w wr) (fun i _ => l.length - (intOf i).toNat)
  case atStart => exact ⟨0,Nat.zero_le _,rfl,by simp [Hid],Below.refl _ _⟩
  case round =>
   obtain ⟨n,hn,rfl,HO,hbw⟩ := hrel
   by_cases hlt : n < l.length
   ·obtain ⟨bb,off,rfl,hbb,hc⟩ := HC.out (by omega)
    have hcx : wr.cell? ⟨bb,off + n * 2,none⟩ = some (.float .f64 (l.getD n (0,0)).1) := (hbw.cell (p := ⟨bb,off + n * 2,none⟩) hbb).trans (hc n hlt).1
    have hcy : wr.cell? ⟨bb,off + n * 2 + 1,none⟩ = some (.float .f64 (l.getD n (0,0)).2) := (hbw.cell (p := ⟨bb,off + n * 2 + 1,none⟩) hbb).trans (hc n hlt).2
    clear hc
    have hm := getD_memP hlt
    have HN : Hid (∀ W,Calls Tryz.prog 81 #[.agg #[.float .f64 (l.getD n (0,0)).1,.float .f64 (l.getD n (0,0)).2]] W fun r w' => r = .returned (.bool (ptOK (l.getD n (0,0)))) ∧ Below W.heap.size W w') := fun W => may05 (H64.out _ hm)
    have HT := Lib.hid (take_snocP l n hlt)
    have HALL : Hid (ptOK (l.getD n (0,0)) = false → allCode l = 10) := fun h => by
     have : l.all ptOK = false := by rw [List.all_eq_false]; exact ⟨_,hm,by rw [h]; simp⟩
     rw [HA.out,this]; rfl
    clear hm
    have HON : Hid (ptOK (l.getD n (0,0)) = true → (l.take (n + 1)).all ptOK = true) := fun h => by
     rw [HT.out,List.all_append,HO.out]; simp only [List.all_cons,List.all_nil,Bool.and_true,Bool.true_and]; exact h
    clear HT
    generalize l.getD n (0,0) = p at *
    generalize ptOK p = ok at *
    obtain ⟨x,y⟩ := p
    dsimp only at hcx hcy HN
    cases ok
    ·have HF := Lib.hid (HALL.out rfl)
     go_wp2_with (go_at_call 81; (with_reducible refine (HN.out _).mono ?_); rintro r w1 ⟨rfl,hb1⟩)
     go_ret2
     rw [HF.out]
     exact ⟨_,rfl,hbw.trans (hb1.mono hbw.size)⟩
    ·have HF := Lib.hid (HON.out rfl)
     have hw1 : wrap64 ((n : Int) + 1) = ((n + 1 : Nat) : Int) := by unfold wrap64; omega
     go_wp2_with (go_at_call 81; (with_reducible refine (HN.out _).mono ?_); rintro r w1 ⟨rfl,hb1⟩)
     go_roundw
     case rel => exact ⟨n + 1,by omega,by rfl,HF,hbw.trans (hb1.mono hbw.size)⟩
     case measure => simp [intOf]; omega
   ·have e : n = l.length := by omega
    subst e
    have HF : Hid (allCode l = 0) := by
     have := HO.out
     rw [List.take_length] at this
     unfold Hid; rw [HA.out,this]; rfl
    go_wp2
    go_ret2
    rw [HF.out]
    exact ⟨_,rfl,hbw⟩
end Go.Proofs.YtbagikgpgdlkcaaGreatDoor
