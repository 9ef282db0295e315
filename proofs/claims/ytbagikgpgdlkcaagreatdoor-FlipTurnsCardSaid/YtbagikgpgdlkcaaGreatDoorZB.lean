/- Part of the proof. No conditions. -/
import Derived.Test.YtbagikgpgdlkcaaGreatDoorZ9
import Derived.Shelf.SlicesG.Cmp
set_option linter.all false
set_option maxHeartbeats 8000000
set_option maxRecDepth 100000
namespace Go.Proofs.YtbagikgpgdlkcaaGreatDoor
open Go.RowKit Tvf Go.Maps Go.WideMaps
theorem cell_keep {w w' : World} {p : Addr} {v : Value} (h : w.cell? p = some v) (hb : Below w.heap.size w w') : w'.cell? p = some v :=
 (hb.cell (p := p) (World.block_lt_of_cell? _ _ h)).trans h
def ptAt (M : MeshM) (i : Int) : Pt := if hasM M i then M.P.getD i.toNat (0,0) else (0,0)
theorem ptAt_no {M : MeshM} {i : Int} (h : hasM M i = false) : ptAt M i = (0,0) := by unfold ptAt; rw [h]; rfl
theorem ptAt_yes {M : MeshM} {x : Nat} (h : x < M.P.length) : ptAt M x = M.P.getD x (0,0) := by unfold ptAt; rw [hasM_nat h]; rfl
theorem point_walk {w : World} {mb n : Nat} {M : MeshM} {F : Nat → Prop} (h : MeshAt w mb n M F) (i : Int) :
  Calls Tryz.prog 49 #[.pointer (some ⟨mb,0,none⟩),.int .i64 i] w fun r w' => r = .returned (.tuple #[.agg #[.float .f64 (ptAt M i).1,.float .f64 (ptAt M i).2],.bool (hasM M i)]) ∧ Below w.heap.size w w' := by
 have HH := Lib.hid (fun W (hb : Below w.heap.size w W) => has_walk (h.below hb) i)
 have hb0 : Below w.heap.size w (w.alloc (.cells #[.float .f64 0,.float .f64 0] 68)) := (Below.refl _ _).alloc (Nat.le_refl _) _
 have HB0 := Lib.hid hb0
 cases hh : hasM M i
 ·rw [hh] at HH
  rw [ptAt_no hh]
  clear h hb0
  go_enter Tryz.func49,Tryz.ntmps49
  go_wp2_with (go_at_call 75; refine (HH.out _ HB0.out).mono ?_; rintro r w1 ⟨rfl,rfl⟩)
  go_returns
  exact ⟨rfl,HB0.out⟩
 ·have hh2 := hh
  unfold hasM at hh2
  simp only [Bool.and_eq_true,decide_eq_true_eq] at hh2
  obtain ⟨x,rfl⟩ : ∃ x : Nat,i = x := ⟨i.toNat,by omega⟩
  have hx : x < M.P.length := by omega
  rw [hh] at HH
  rw [ptAt_yes hx]
  have h' := h.below hb0
  obtain ⟨ba,bs,bf,pv,sv,h⟩ := h'
  obtain ⟨ad,cap,rfl,hpc⟩ := h.ptcells
  obtain ⟨bp,off,rfl,_,hpc⟩ := hpc (by omega)
  have c0 := h.c0
  obtain ⟨ax,ay⟩ := hpc x hx
  have hx1 : (x : Int) < (M.P.length : Int) := by omega
  clear h hpc hh hh2 hb0
  generalize M.P.getD x (0,0) = pa at *
  generalize M.P.length = L at *
  go_enter Tryz.func49,Tryz.ntmps49
  go_wp2_with (go_at_call 75; refine (HH.out _ HB0.out).mono ?_; rintro r w1 ⟨rfl,rfl⟩)
  go_returns
  exact ⟨rfl,(Below.refl _ _).alloc (Nat.le_refl _) _⟩
theorem sgnI_gt {a b : Int} (h : b < a) : sgnI (a - b) = 1 := by unfold sgnI; rw [if_neg (by omega),if_pos (by omega)]
theorem sgnI_lt {a b : Int} (h : a < b) : sgnI (a - b) = -1 := by unfold sgnI; rw [if_pos (by omega)]
theorem sgnI_eq {a b : Int} (h : a = b) : sgnI (a - b) = 0 := by unfold sgnI; rw [if_neg (by omega),if_neg (by omega)]
def shB (M : MeshM) (a b : Int) : Bool := (M.ap a b).isSome && (M.ap b a).isSome
theorem shared_walk {w : World} {mb n : Nat} {M : MeshM} {F : Nat → Prop} (h : MeshAt w mb n M F) {a b : Int} (ha : i64ok a) (hb : i64ok b) :
  Calls Tryz.prog 46 #[.pointer (some ⟨mb,0,none⟩),.int .i64 a,.int .i64 b] w fun r w' => r = .returned (.tuple #[.agg #[.int .i64 a,.int .i64 b,.int .i64 ((M.ap a b).getD 0),.int .i64 ((M.ap b a).getD 0)],.bool (shB M a b)]) ∧ Below w.heap.size w w' := by
 have hb0 : Below w.heap.size w (w.alloc (.cells #[.int .i64 0,.int .i64 0,.int .i64 0,.int .i64 0] 84)) := (Below.refl _ _).alloc (Nat.le_refl _) _
 have HX := Lib.hid (apex_walk (h.below hb0) ha hb)
 have HY := Lib.hid (apex_walk (h.below hb0) hb ha)
 have HB0 := Lib.hid hb0
 unfold shB
 generalize (M.ap a b).getD 0 = c at *
 generalize (M.ap b a).getD 0 = d at *
 generalize (M.ap a b).isSome = p at *
 generalize (M.ap b a).isSome = q at *
 clear h ha hb hb0
 cases p <;> cases q
 all_goals
  go_enter Tryz.func46,Tryz.ntmps46
  go_wp2_with (first
   |(go_at_call 12; with_reducible refine HX.out.mono ?_; rintro r w1 ⟨rfl,rfl⟩)
   |(go_at_call 12; with_reducible refine HY.out.mono ?_; rintro r w2 ⟨rfl,rfl⟩))
  go_returns
  exact ⟨rfl,(Below.refl _ _).alloc (Nat.le_refl _) _⟩
theorem cell_al {w : World} {p : Addr} {v : Value} (h : w.cell? p = some v) (o : Obj) : (w.alloc o).cell? p = some v := cell_keep h ((Below.refl _ _).alloc (Nat.le_refl _) o)
theorem new2 (w : World) (x y : Value) (T : TypeId) : (w.alloc (.cells #[x,y] T)).cell? ⟨w.heap.size,0,none⟩ = some x ∧ (w.alloc (.cells #[x,y] T)).cell? ⟨w.heap.size,1,none⟩ = some y :=
 ⟨by rw [World.cell?_alloc_at _ _ _ _ rfl]; rfl,by rw [World.cell?_alloc_at _ _ _ _ rfl]; rfl⟩
theorem new3 (w : World) (x y z : Value) (T : TypeId) : (w.alloc (.cells #[x,y,z] T)).cell? ⟨w.heap.size,0,none⟩ = some x ∧ (w.alloc (.cells #[x,y,z] T)).cell? ⟨w.heap.size,1,none⟩ = some y ∧ (w.alloc (.cells #[x,y,z] T)).cell? ⟨w.heap.size,2,none⟩ = some z :=
 ⟨by rw [World.cell?_alloc_at _ _ _ _ rfl]; rfl,by rw [World.cell?_alloc_at _ _ _ _ rfl]; rfl,by rw [World.cell?_alloc_at _ _ _ _ rfl]; rfl⟩
def C3 (W : World) (b : Nat) (x y z : Value) : Prop := W.cell? ⟨b,0,none⟩ = some x ∧ W.cell? ⟨b,1,none⟩ = some y ∧ W.cell? ⟨b,2,none⟩ = some z
theorem C3.below {W W' : World} {b : Nat} {x y z : Value} (h : C3 W b x y z) (hb : Below W.heap.size W W') : C3 W' b x y z := ⟨cell_keep h.1 hb,cell_keep h.2.1 hb,cell_keep h.2.2 hb⟩
theorem C3.new (w : World) (x y z : Value) (T : TypeId) : C3 (w.alloc (.cells #[x,y,z] T)) w.heap.size x y z := new3 w x y z T
theorem C3.al {W : World} {b : Nat} {x y z : Value} (h : C3 W b x y z) (o : Obj) : C3 (W.alloc o) b x y z := h.below ((Below.refl _ _).alloc (Nat.le_refl _) o)
theorem C3.two (w : World) (x y z x' y' z' : Value) (T T' : TypeId) : C3 ((w.alloc (.cells #[x,y,z] T)).alloc (.cells #[x', y', z'] T')) w.heap.size x y z ∧ C3 ((w.alloc (.cells #[x,y,z] T)).alloc (.cells #[x', y', z'] T')) (w.heap.size + 1) x' y' z' := by
 refine ⟨(C3.new w x y z T).al _,?_⟩
 have := C3.new (w.alloc (.cells #[x,y,z] T)) x' y' z' T'
 rwa [show (w.alloc (.cells #[x,y,z] T)).heap.size = w.heap.size + 1 from by simp] at this
def leftM (M : MeshM) (a b c : Int) : Bool := decide (0 < signI (ptAt M a) (ptAt M b) (ptAt M c))
theorem ptAt_64 {M : MeshM} (h : ∀ p,p ∈ M.P → pt64 p) (i : Int) : pt64 (ptAt M i) := by
 unfold ptAt
 split
 ·rename_i hh
  unfold hasM at hh
  simp only [Bool.and_eq_true,decide_eq_true_eq] at hh
  have hx : i.toNat < M.P.length := by omega
  rw [List.getD_eq_getElem?_getD,List.getElem?_eq_getElem hx]
  exact h _ (List.getElem_mem hx)
 ·unfold pt64; decide
theorem left_walk {w : World} {mb n : Nat} {M : MeshM} {F : Nat → Prop} (h : MeshAt w mb n M F) (h64 : ∀ p,p ∈ M.P → pt64 p) (a b c : Int) :
  Calls Tryz.prog 87 #[.pointer (some ⟨mb,0,none⟩),.int .i64 a,.int .i64 b,.int .i64 c] w fun r w' => r = .returned (.bool (leftM M a b c)) ∧ Below w.heap.size w w' := by
 have HA := Lib.hid (fun W (hb : Below w.heap.size w W) => point_walk (h.below hb) a)
 have HB := Lib.hid (fun W (hb : Below w.heap.size w W) => point_walk (h.below hb) b)
 have HC := Lib.hid (fun W (hb : Below w.heap.size w W) => point_walk (h.below hb) c)
 have HS := Lib.hid (fun W => orient_sign (ptAt M a) (ptAt M b) (ptAt M c) (by
  intro p hp
  simp only [List.mem_cons,List.not_mem_nil,or_false] at hp
  rcases hp with rfl | rfl | rfl
  ·exact ptAt_64 h64 a
  ·exact ptAt_64 h64 b
  ·exact ptAt_64 h64 c) W)
 unfold leftM
 clear h h64
 unfold V at HS
 generalize signI (ptAt M a) (ptAt M b) (ptAt M c) = s at *
 generalize ptAt M a = pa at *
 generalize ptAt M b = pb at *
 generalize ptAt M c = pc at *
 generalize hasM M a = ka at *
 generalize hasM M b = kb at *
 generalize hasM M c = kc at *
 have b0 : Below w.heap.size w w := Below.refl _ _
 by_cases hs : 0 < s
 all_goals
  go_enter Tryz.func87,Tryz.ntmps87
  go_wp2_with (first
   |(go_at_call 49; with_reducible refine (HA.out w b0).mono ?_; rintro r w1 ⟨rfl,b1⟩)
   |(go_at_call 49; with_reducible refine (HB.out _ (b1.alloc b1.size _)).mono ?_; rintro r w2 ⟨rfl,hb2⟩; have b2 := (b1.alloc b1.size (.cells #[.float .f64 pa.1,.float .f64 pa.2] 68)).trans (hb2.mono (Nat.le_trans b1.size (by simp))); have k1 := cell_keep (new2 w1 (.float .f64 pa.1) (.float .f64 pa.2) 68).1 hb2; have k2 := cell_keep (new2 w1 (.float .f64 pa.1) (.float .f64 pa.2) 68).2 hb2)
   |(go_at_call 49; with_reducible refine (HC.out _ (b2.alloc b2.size _)).mono ?_; rintro r w3 ⟨rfl,hb3⟩; have b3 := (b2.alloc b2.size (.cells #[.float .f64 pb.1,.float .f64 pb.2] 68)).trans (hb3.mono (Nat.le_trans b2.size (by simp))); have k3 := cell_keep (new2 w2 (.float .f64 pb.1) (.float .f64 pb.2) 68).1 hb3; have k4 := cell_keep (new2 w2 (.float .f64 pb.1) (.float .f64 pb.2) 68).2 hb3; have k5 := cell_keep (cell_keep k1 ((Below.refl w2.heap.size w2).alloc (Nat.le_refl _) (.cells #[.float .f64 pb.1,.float .f64 pb.2] 68))) hb3; have k6 := cell_keep (cell_keep k2 ((Below.refl w2.heap.size w2).alloc (Nat.le_refl _) (.cells #[.float .f64 pb.1,.float .f64 pb.2] 68))) hb3; have j3 := cell_al k3; have j4 := cell_al k4; have j5 := cell_al k5; have j6 := cell_al k6)
   |(go_at_call 76; with_reducible refine (HS.out _).mono ?_; rintro r w4 ⟨rfl,hb4⟩))
  go_ret
  refine ⟨by simp [hs],?_⟩
  exact (b3.alloc b3.size _).trans (hb4.mono (Nat.le_trans b3.size (by simp)))
def BoxN (T : TypeId) (W : World) (b : Nat) (xs : Array Value) : Prop := W.heap[b]? = some (.cells xs T)
section
variable {T : TypeId} {W W' : World} {b B : Nat} {xs : Array Value}
theorem BoxN.c (h : BoxN T W b xs) (i : Nat) : W.cell? ⟨b,i,none⟩ = xs[i]? := by
 unfold BoxN at h
 simp [World.cell?,h]
theorem BoxN.fz (h : BoxN T W b xs) (i : Nat) : W.frozen? ⟨b,i,none⟩ = false := by
 unfold BoxN at h
 simp [World.frozen?,h]
theorem BoxN.lt (h : BoxN T W b xs) : b < W.heap.size := by
 unfold BoxN at h
 exact (Array.getElem?_eq_some_iff.1 h).1
theorem BoxN.low (h : BoxN T W b xs) (hb : Below B W W') (hl : b < B) : BoxN T W' b xs := (hb.block b hl).trans h
theorem BoxN.below (h : BoxN T W b xs) (hb : Below W.heap.size W W') : BoxN T W' b xs := h.low hb h.lt
theorem BoxN.al (h : BoxN T W b xs) (o : Obj) : BoxN T (W.alloc o) b xs := h.below ((Below.refl _ _).alloc (Nat.le_refl _) o)
theorem BoxN.new (W : World) (xs : Array Value) (T : TypeId) : BoxN T (W.alloc (.cells xs T)) W.heap.size xs := by
 show (W.heap.push _)[W.heap.size]? = _
 simp
theorem BoxN.set (h : BoxN T W b xs) (i : Nat) (v : Value) (hi : i < xs.size) : BoxN T (W.setCell ⟨b,i,none⟩ v) b (xs.set i v hi) := by
 unfold BoxN at h ⊢
 simp [World.setCell,Array.getElem?_modify,h,Array.setIfInBounds,hi]
end
end Go.Proofs.YtbagikgpgdlkcaaGreatDoor
namespace Go.Proofs.YtbagikgpgdlkcaaGreatDoor
open Go.RowKit Tvf
def BB : Nat := 16777216
theorem BB_eq : BB = 16777216 := rfl
theorem BB_pos : 0 < BB := by decide
def mag : List Nat → Nat
 | [] => 0
 | d :: r => d + BB * mag r
structure NumP where
 S : Int
 D : List Nat
 E : Int
def placeE (e : Int) : Nat := (e + 200).toNat
def mv (x : NumP) : Nat := mag x.D * BB ^ placeE x.E
def nv (x : NumP) : Int := x.S * (mv x : Int)
def Lead (y : NumP) : Prop := 0 < y.D.length → y.D.getD 0 0 ≠ 0
structure Wf (x : NumP) : Prop where
 dig : ∀ d,d ∈ x.D → d < BB
 sg : x.S = 0 ∨ x.S = 1 ∨ x.S = -1
 z : x.S = 0 ↔ mag x.D = 0
 lead : Lead x
structure Rng (e : Nat) (x : NumP) : Prop where
 lo : -(e : Int) ≤ x.E
 hi : x.E + x.D.length ≤ e
def digP (x : NumP) (i : Int) : Nat := if i < x.E ∨ x.E + x.D.length ≤ i then 0 else x.D.getD (i - x.E).toNat 0
def tot (x : NumP) (f : Int) : Nat → Nat
 | 0 => 0
 | n + 1 => tot x f n + digP x (f + n) * BB ^ n
theorem mag_append (a b : List Nat) : mag (a ++ b) = mag a + BB ^ a.length * mag b := by
 induction a with
 | nil => simp [mag]
 | cons d r ih =>
  simp only [List.cons_append,mag,ih,List.length_cons,Nat.pow_succ]
  rw [Nat.mul_add,← Nat.mul_assoc,Nat.mul_comm BB (BB ^ r.length),Nat.add_assoc]
theorem mag_lt : ∀ (l : List Nat),(∀ d,d ∈ l → d < BB) → mag l < BB ^ l.length
 | [],_ => by simp [mag]
 | d :: r,h => by
  have h1 := h d (List.mem_cons_self ..)
  have h2 := mag_lt r (fun e he => h e (List.mem_cons_of_mem _ he))
  simp only [mag,List.length_cons,Nat.pow_succ]
  rw [Nat.mul_comm (BB ^ r.length) BB]
  have : BB * mag r + BB ≤ BB * BB ^ r.length := by rw [← Nat.mul_succ]; exact Nat.mul_le_mul_left _ h2
  omega
theorem mag_take_succ {l : List Nat} {m : Nat} (h : m < l.length) : mag (l.take (m + 1)) = mag (l.take m) + l.getD m 0 * BB ^ m := by
 rw [List.take_succ_eq_append_getElem h,mag_append]
 rw [List.length_take,Nat.min_eq_left (Nat.le_of_lt h),List.getD_eq_getElem?_getD,List.getElem?_eq_getElem h]
 simp only [mag,Option.getD_some,Nat.mul_zero,Nat.add_zero]
 rw [Nat.mul_comm]
theorem digP_lt {x : NumP} (h : ∀ d,d ∈ x.D → d < BB) (i : Int) : digP x i < BB := by
 unfold digP
 split
 ·exact BB_pos
 ·rename_i hh
  have hx : (i - x.E).toNat < x.D.length := by omega
  rw [List.getD_eq_getElem?_getD,List.getElem?_eq_getElem hx]
  exact h _ (List.getElem_mem hx)
theorem tot_lt {x : NumP} (h : ∀ d,d ∈ x.D → d < BB) (f : Int) : ∀ n,tot x f n < BB ^ n
 | 0 => by simp [tot]
 | n + 1 => by
  have h1 := tot_lt h f n
  have h2 := digP_lt h (f + n)
  simp only [tot,Nat.pow_succ]
  rw [Nat.mul_comm (BB ^ n) BB]
  have : digP x (f + n) * BB ^ n + BB ^ n ≤ BB * BB ^ n := by rw [← Nat.succ_mul]; exact Nat.mul_le_mul_right _ h2
  omega
theorem tot_take (x : NumP) (f : Int) (z : Nat) (hz : x.E = f + z) : ∀ n,tot x f n = if n < z then 0 else mag (x.D.take (n - z)) * BB ^ z
 | 0 => by
  simp only [tot]
  split
  ·rfl
  ·simp [mag]
 | n + 1 => by
  simp only [tot]
  rw [tot_take x f z hz n]
  unfold digP
  by_cases h1 : n < z
  ·rw [if_pos h1,if_pos (by left; omega)]
   by_cases h2 : n + 1 < z
   ·rw [if_pos h2]; simp
   ·rw [if_neg h2,show n + 1 - z = 0 by omega]; simp [mag]
  ·rw [if_neg h1,if_neg (show ¬n + 1 < z by omega)]
   by_cases h2 : n - z < x.D.length
   ·rw [if_neg (by omega),show n + 1 - z = (n - z) + 1 by omega,mag_take_succ h2,show (f + (n : Int) - x.E).toNat = n - z by omega,Nat.add_mul,Nat.mul_assoc,← Nat.pow_add,show n - z + z = n by omega]
   ·rw [if_pos (by right; omega),List.take_of_length_le (by omega),List.take_of_length_le (by omega)]; simp
theorem tot_mv {x : NumP} {f : Int} {n : Nat} (h1 : f ≤ x.E) (h2 : x.E + x.D.length ≤ f + n) (h3 : -200 ≤ f) : tot x f n * BB ^ placeE f = mv x := by
 rw [tot_take x f (x.E - f).toNat (by omega) n]
 unfold mv
 by_cases h : n < (x.E - f).toNat
 ·exact absurd h (by omega)
 ·rw [if_neg h,List.take_of_length_le (by omega),Nat.mul_assoc,← Nat.pow_add]
  unfold placeE
  rw [show (x.E - f).toNat + (f + 200).toNat = (x.E + 200).toNat by omega]
theorem tot_top {a b : NumP} (hb : ∀ d,d ∈ b.D → d < BB) (f : Int) (m : Nat) (hm : digP b (f + m) < digP a (f + m)) : ∀ n,m < n → (∀ j : Nat,m < j → j < n → digP a (f + j) = digP b (f + j)) → tot b f n < tot a f n
 | 0,h,_ => by omega
 | n + 1,h,he => by
  simp only [tot]
  by_cases e : n = m
  ·subst e
   have h1 := tot_lt hb f n
   have : digP b (f + n) * BB ^ n + BB ^ n ≤ digP a (f + n) * BB ^ n := by rw [← Nat.succ_mul]; exact Nat.mul_le_mul_right _ hm
   omega
  ·have h1 := tot_top hb f m hm n (by omega) (fun j h1 h2 => he j h1 (by omega))
   rw [he n (by omega) (by omega)]
   omega
theorem tot_same {a b : NumP} (f : Int) : ∀ n,(∀ j : Nat,j < n → digP a (f + j) = digP b (f + j)) → tot a f n = tot b f n
 | 0,_ => rfl
 | n + 1,h => by simp only [tot]; rw [tot_same f n (fun j hj => h j (by omega)),h n (by omega)]
theorem nv_sign {x : NumP} (h : Wf x) : sgnI (nv x) = x.S := by
 unfold nv
 have hm : mv x = 0 ↔ mag x.D = 0 := by
  unfold mv
  constructor
  ·intro e
   rcases Nat.mul_eq_zero.1 e with e | e
   ·exact e
   ·exact absurd e (Nat.ne_of_gt (Nat.pow_pos BB_pos))
  ·intro e; rw [e,Nat.zero_mul]
 rcases h.sg with e | e | e
 ·rw [e]; unfold sgnI; simp
 ·have : mv x ≠ 0 := fun e2 => by have := h.z.2 (hm.1 e2); omega
  rw [e]; unfold sgnI; simp; omega
 ·have : mv x ≠ 0 := fun e2 => by have := h.z.2 (hm.1 e2); omega
  rw [e]; unfold sgnI; simp; omega
open Go.Maps Go.WideMaps
def I64At (w : World) (b : Nat) : Prop := ∃ cur fz,w.heap[b]? = some (.cells cur 2 fz)
theorem I64At.lt {w : World} {b : Nat} (h : I64At w b) : b < w.heap.size := by
 obtain ⟨cur,fz,h⟩ := h
 exact (Array.getElem?_eq_some_iff.1 h).1
theorem I64At.same {w w' : World} {b : Nat} (h : I64At w b) (e : w'.heap[b]? = w.heap[b]?) : I64At w' b := by
 obtain ⟨cur,fz,h⟩ := h
 exact ⟨cur,fz,e.trans h⟩
theorem I64At.below {w w' : World} {b : Nat} (h : I64At w b) (hb : Below w.heap.size w w') : I64At w' b := h.same (hb.block b h.lt)
def DAt (w : World) (ad : Option Addr) (D : List Nat) : Prop :=
 0 < D.length → ∃ b off : Nat,ad = some ⟨b,off,none⟩ ∧ I64At w b ∧ ∀ i,i < D.length → w.cell? ⟨b,off + i,none⟩ = some (.int .i64 (D.getD i 0 : Nat))
def NumA (x : NumP) (ad : Option Addr) (cap : Nat) : Value := .agg #[.int .i64 x.S,.slice ad x.D.length cap,.int .i64 x.E]
structure NumV (w : World) (v : Value) (x : NumP) : Prop where
 ex : ∃ ad cap,v = NumA x ad cap ∧ DAt w ad x.D ∧ x.D.length ≤ cap
theorem DAt.below {w w' : World} {ad : Option Addr} {D : List Nat} (h : DAt w ad D) (hb : Below w.heap.size w w') : DAt w' ad D := by
 intro h0
 obtain ⟨b,off,rfl,hlt,hc⟩ := h h0
 exact ⟨b,off,rfl,hlt.below hb,fun i hi => (hb.cell (p := ⟨b,off + i,none⟩) hlt.lt).trans (hc i hi)⟩
theorem NumV.below {w w' : World} {v : Value} {x : NumP} (h : NumV w v x) (hb : Below w.heap.size w w') : NumV w' v x := by
 obtain ⟨ad,cap,e,hd,hc⟩ := h.ex
 exact ⟨ad,cap,e,hd.below hb,hc⟩
theorem digit_walk {x : NumP} {ad : Option Addr} {cap : Nat} {w : World} (hd : DAt w ad x.D) (hr : Rng 1000 x) (i : Int) (hi : -2000 ≤ i ∧ i ≤ 2000) :
  Calls Tryz.prog 201 #[NumA x ad cap,.int .i64 i] w fun r w' => r = .returned (.int .i64 (digP x i : Nat)) ∧ Below w.heap.size w w' := by
 obtain ⟨S,D,E⟩ := x
 obtain ⟨h1,h2⟩ := hr
 dsimp only at h1 h2 hd
 unfold NumA digP
 dsimp only
 have hw1 : wrap64 (E + (D.length : Int)) = E + D.length := by unfold wrap64; omega
 by_cases c1 : i < E
 ·rw [if_pos (Or.inl c1)]
  clear hd
  go_enter Tryz.func201,Tryz.ntmps201
  go_wp2
  go_ret
  exact ⟨rfl,(Below.refl _ _).alloc (Nat.le_refl _) _⟩
 ·by_cases c2 : E + (D.length : Int) ≤ i
  ·rw [if_pos (Or.inr c2)]
   clear hd
   go_enter Tryz.func201,Tryz.ntmps201
   go_wp2
   go_ret
   exact ⟨rfl,(Below.refl _ _).alloc (Nat.le_refl _) _⟩
  ·rw [if_neg (by omega)]
   obtain ⟨b,off,rfl,hlt,hc⟩ := hd (by omega)
   obtain ⟨k,hk⟩ : ∃ k : Nat,i - E = k := ⟨(i - E).toNat,by omega⟩
   have hkl : k < D.length := by omega
   have hcell := hc k hkl
   have hw2 : wrap64 (i - E) = (k : Int) := by rw [hk]; unfold wrap64; omega
   have hk2 : (k : Int) < (D.length : Int) := by omega
   have hk0 : (0 : Int) ≤ (k : Int) := by omega
   have hcw : ∀ o,(w.alloc o).cell? ⟨b,off + k,none⟩ = some (.int .i64 (D.getD k 0 : Nat)) := fun o => cell_al hcell o
   rw [show (i - E).toNat = k by omega]
   clear hd hc hcell hlt
   generalize D.getD k 0 = d at *
   go_enter Tryz.func201,Tryz.ntmps201
   go_wp2
   go_ret
   exact ⟨rfl,(Below.refl _ _).alloc (Nat.le_refl _) _⟩
theorem mv_top {x y : NumP} (hwx : Wf x) (hwy : Wf y) {f t : Int} {n m : Nat} (hf1 : f ≤ x.E) (hf2 : f ≤ y.E) (ht1 : x.E + x.D.length ≤ t) (ht2 : y.E + y.D.length ≤ t) (hn : t = f + n) (h200 : -200 ≤ f)
  (he : ∀ j : Nat,m < j → j < n → digP x (f + j) = digP y (f + j)) (hm : m < n) :
  (digP y (f + m) < digP x (f + m) → sgnI ((mv x : Int) - mv y) = 1) ∧ (digP x (f + m) < digP y (f + m) → sgnI ((mv x : Int) - mv y) = -1) := by
 have ex := tot_mv hf1 (n := n) (by omega) h200
 have ey := tot_mv hf2 (n := n) (by omega) h200
 have hp : 0 < BB ^ placeE f := Nat.pow_pos BB_pos
 constructor
 ·intro h
  have := tot_top hwy.dig f m h n hm he
  refine sgnI_gt ?_
  have := Nat.mul_lt_mul_of_pos_right this hp
  rw [ex,ey] at this
  omega
 ·intro h
  have := tot_top hwx.dig f m h n hm (fun j h1 h2 => (he j h1 h2).symm)
  refine sgnI_lt ?_
  have := Nat.mul_lt_mul_of_pos_right this hp
  rw [ex,ey] at this
  omega
theorem mv_same {x y : NumP} {f t : Int} {n : Nat} (hf1 : f ≤ x.E) (hf2 : f ≤ y.E) (ht1 : x.E + x.D.length ≤ t) (ht2 : y.E + y.D.length ≤ t) (hn : t ≤ f + n) (h200 : -200 ≤ f)
  (he : ∀ j : Nat,j < n → digP x (f + j) = digP y (f + j)) : sgnI ((mv x : Int) - mv y) = 0 := by
 have ex := tot_mv hf1 (n := n) (by omega) h200
 have ey := tot_mv hf2 (n := n) (by omega) h200
 rw [tot_same f n he] at ex
 exact sgnI_eq (by omega)
theorem size_walk {x y : NumP} {ad bd : Option Addr} {ca cb : Nat} {w : World} (hdx : DAt w ad x.D) (hdy : DAt w bd y.D) (hrx : Rng 190 x) (hry : Rng 190 y) (hwx : Wf x) (hwy : Wf y) :
  Calls Tryz.prog 200 #[NumA x ad ca,NumA y bd cb] w fun r w' => r = .returned (.int .i64 (sgnI ((mv x : Int) - mv y))) ∧ Below w.heap.size w w' := by
 have HDX := Lib.hid (fun W (hb : Below w.heap.size w W) i hi => digit_walk (x := x) (ad := ad) (cap := ca) (hdx.below hb) ⟨by have := hrx.lo; omega,by have := hrx.hi; omega⟩ i hi)
 have HDY := Lib.hid (fun W (hb : Below w.heap.size w W) i hi => digit_walk (x := y) (ad := bd) (cap := cb) (hdy.below hb) ⟨by have := hry.lo; omega,by have := hry.hi; omega⟩ i hi)
 obtain ⟨f,hf⟩ : ∃ f : Int,min x.E y.E = f := ⟨_,rfl⟩
 obtain ⟨t,ht⟩ : ∃ t : Int,max (x.E + x.D.length) (y.E + y.D.length) = t := ⟨_,rfl⟩
 have hwx1 : wrap64 (x.E + (x.D.length : Int)) = x.E + x.D.length := by have := hrx.lo; have := hrx.hi; unfold wrap64; omega
 have hwy1 : wrap64 (y.E + (y.D.length : Int)) = y.E + y.D.length := by have := hry.lo; have := hry.hi; unfold wrap64; omega
 have HB : Hid (f ≤ x.E ∧ f ≤ y.E ∧ x.E + x.D.length ≤ t ∧ y.E + y.D.length ≤ t ∧ -190 ≤ f ∧ t ≤ 190 ∧ f ≤ t) := by have := hrx.lo; have := hrx.hi; have := hry.lo; have := hry.hi; unfold Hid; omega
 obtain ⟨n,hn⟩ : ∃ n : Nat,Hid (t = f + n) := ⟨(t - f).toNat,by have := HB.out; unfold Hid; omega⟩
 have hwt : wrap64 (t - 1) = t - 1 := by have := HB.out; unfold wrap64; omega
 have HTOP : Hid (∀ m : Nat,m < n → (∀ j : Nat,m < j → j < n → digP x (f + j) = digP y (f + j)) → (digP y (f + m) < digP x (f + m) → sgnI ((mv x : Int) - mv y) = 1) ∧ (digP x (f + m) < digP y (f + m) → sgnI ((mv x : Int) - mv y) = -1)) :=
  fun m hm he => mv_top hwx hwy HB.out.1 HB.out.2.1 HB.out.2.2.1 HB.out.2.2.2.1 hn.out (by have := HB.out; omega) he hm
 have HSAME : Hid ((∀ j : Nat,j < n → digP x (f + j) = digP y (f + j)) → sgnI ((mv x : Int) - mv y) = 0) :=
  fun he => mv_same HB.out.1 HB.out.2.1 HB.out.2.2.1 HB.out.2.2.2.1 (by have := hn.out; omega) (by have := HB.out; omega) he
 unfold NumA at *
 have HC2 := Lib.hid (C3.two w (.int .i64 x.S) (.slice ad x.D.length ca) (.int .i64 x.E) (.int .i64 y.S) (.slice bd y.D.length cb) (.int .i64 y.E) 124 124)
 have HB2 : Hid (Below w.heap.size w ((w.alloc (.cells #[.int .i64 x.S,.slice ad x.D.length ca,.int .i64 x.E] 124)).alloc (.cells #[.int .i64 y.S,.slice bd y.D.length cb,.int .i64 y.E] 124))) := ((Below.refl _ _).alloc (Nat.le_refl _) _).alloc (by simp) _
 generalize sgnI ((mv x : Int) - mv y) = R at *
 generalize digP x = dx at *
 generalize digP y = dy at *
 clear hdx hdy hrx hry hwx hwy
 go_enter Tryz.func200,Tryz.ntmps200
 go_wp2
 generalize ((w.alloc (.cells #[.int .i64 x.S,.slice ad x.D.length ca,.int .i64 x.E] 124)).alloc (.cells #[.int .i64 y.S,.slice bd y.D.length cb,.int .i64 y.E] 124)) = W2 at *
 have HWT := Lib.hid hwt
 clear hwx1 hwy1 hwt hf ht
 go_loopw [7] (fun s7 wr => ∃ (i : Int) (m : Nat),i + 1 = f + m ∧ m ≤ n ∧ s7 = .int .i64 i ∧ Hid (∀ j : Nat,m ≤ j → j < n → dx (f + j) = dy (f + j)) ∧ Hid (Below W2.heap.size W2 wr)) (fun s7 _ => (intOf s7 - f + 1).toNat)
 case atStart => exact ⟨t - 1,n,by have := hn.out; omega,Nat.le_refl _,by rw [HWT.out],fun j h1 h2 => absurd h2 (by omega),Below.refl _ _⟩
 case round =>
  obtain ⟨i,m,him,hmn,rfl,HE,HBW⟩ := hrel
  obtain ⟨⟨a0,a1,a2⟩,⟨b0,b1,b2⟩⟩ : C3 wr w.heap.size (.int .i64 x.S) (.slice ad x.D.length ca) (.int .i64 x.E) ∧ C3 wr (w.heap.size + 1) (.int .i64 y.S) (.slice bd y.D.length cb) (.int .i64 y.E) := ⟨HC2.out.1.below HBW.out,HC2.out.2.below HBW.out⟩
  have HW := Lib.hid (HB2.out.trans (HBW.out.mono HB2.out.size))
  cases m with
  | zero =>
   have hge : ¬f ≤ i := by omega
   have hR := HSAME.out (fun j hj => HE.out j (Nat.zero_le _) hj)
   clear HDX HDY HTOP HSAME
   go_wp2
   go_ret
   exact ⟨by subst hR; rfl,HW.out⟩
  | succ m =>
   have hfi : f ≤ i := by omega
   have hi2 : -2000 ≤ i ∧ i ≤ 2000 := by have := HB.out; have := hn.out; omega
   have HDXi := Lib.hid (HDX.out wr HW.out i hi2)
   have HDYi := Lib.hid (fun W hb => HDY.out W hb i hi2)
   have hR := HTOP.out m (by omega) (fun j h1 h2 => HE.out j h1 h2)
   rw [show f + (m : Int) = i by omega] at hR
   have hwi : wrap64 (i - 1) = i - 1 := by unfold wrap64; omega
   obtain ⟨hR1,hR2⟩ := hR
   generalize hp : dx i = p at *
   generalize hq : dy i = q at *
   have h3 : q < p ∨ p < q ∨ p = q := by omega
   rcases h3 with h3 | h3 | h3
   ·have hR := hR1 h3
    have h3z : (q : Int) < (p : Int) := by omega
    go_wp2_with (first
     |(go_at_call 201; with_reducible refine HDXi.out.mono ?_; rintro r w3 ⟨rfl,hb3⟩; have HW3 := Lib.hid (HW.out.trans (hb3.mono HW.out.size)); have c0 := cell_keep b0 hb3; have c1 := cell_keep b1 hb3; have c2 := cell_keep b2 hb3)
     |(go_at_call 201; with_reducible refine (HDYi.out _ HW3.out).mono ?_; rintro r w4 ⟨rfl,hb4⟩))
    go_ret
    exact ⟨by subst hR; rfl,HW3.out.trans (hb4.mono HW3.out.size)⟩
   ·have hR := hR2 h3
    have h3z : (p : Int) < (q : Int) := by omega
    have h4z : ¬(q : Int) < (p : Int) := by omega
    go_wp2_with (first
     |(go_at_call 201; with_reducible refine HDXi.out.mono ?_; rintro r w3 ⟨rfl,hb3⟩; have HW3 := Lib.hid (HW.out.trans (hb3.mono HW.out.size)); have c0 := cell_keep b0 hb3; have c1 := cell_keep b1 hb3; have c2 := cell_keep b2 hb3)
     |(go_at_call 201; with_reducible refine (HDYi.out _ HW3.out).mono ?_; rintro r w4 ⟨rfl,hb4⟩))
    go_ret
    exact ⟨by subst hR; rfl,HW3.out.trans (hb4.mono HW3.out.size)⟩
   ·subst h3
    go_wp2_with (first
     |(go_at_call 201; with_reducible refine HDXi.out.mono ?_; rintro r w3 ⟨rfl,hb3⟩; have HW3 := Lib.hid (HW.out.trans (hb3.mono HW.out.size)); have c0 := cell_keep b0 hb3; have c1 := cell_keep b1 hb3; have c2 := cell_keep b2 hb3)
     |(go_at_call 201; with_reducible refine (HDYi.out _ HW3.out).mono ?_; rintro r w4 ⟨rfl,hb4⟩))
    go_roundw
    case rel =>
     refine ⟨i - 1,m,by omega,by omega,rfl,fun j h1 h2 => ?_,?_⟩
     ·rcases Nat.lt_or_ge m j with h | h
      ·exact HE.out j h h2
      ·have : j = m := by omega
       subst this
       rw [show f + (j : Int) = i by omega,hp,hq]
     ·have hs := HBW.out.size
      exact (HBW.out.trans (hb3.mono hs)).trans (hb4.mono (Nat.le_trans hs hb3.size))
    case measure => simp only [intOf]; omega
end Go.Proofs.YtbagikgpgdlkcaaGreatDoor
