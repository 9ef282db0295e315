/- Part of the proof. No conditions. -/
import Derived.Test.YtbagikgpgdlkcaaGreatDoorZA
import Derived.Test.YtbagikgpgdlkcaaGreatDoorZB
import Derived.Deep.CutRange
set_option linter.all false
set_option maxHeartbeats 8000000
set_option maxRecDepth 100000
namespace Go.Proofs.YtbagikgpgdlkcaaGreatDoor
open Go.RowKit Tvf Go.Maps Go.WideMaps
def slLenK : Value → Nat
 | .slice _ n _ => n
 | _ => 0
theorem mag_take_zero {D : List Nat} {k : Nat} (h : ∀ j,k ≤ j → j < D.length → D.getD j 0 = 0) : mag (D.take k) = mag D := by
 have h0 : ∀ l : List Nat,(∀ j,j < l.length → l.getD j 0 = 0) → mag l = 0 := by
  intro l
  induction l with
  | nil => intro _; rfl
  | cons d r ih =>
   intro h
   have h1 := h 0 (by simp)
   have h2 := ih (fun j hj => by have := h (j + 1) (by simp; omega); simpa using this)
   simp only [List.getD_cons_zero] at h1
   rw [mag,h1,h2]; rfl
 have e : mag (D.drop k) = 0 := h0 _ (fun j hj => by
  rw [List.length_drop] at hj
  rw [List.getD_eq_getElem?_getD,List.getElem?_drop,← List.getD_eq_getElem?_getD]
  exact h (k + j) (by omega) (by omega))
 have := mag_append (D.take k) (D.drop k)
 rw [List.take_append_drop,e] at this
 omega
theorem mag_drop_zero {D : List Nat} {i : Nat} (h : ∀ j,j < i → D.getD j 0 = 0) (hi : i ≤ D.length) : mag D = BB ^ i * mag (D.drop i) := by
 have e := mag_append (D.take i) (D.drop i)
 rw [List.take_append_drop,List.length_take,Nat.min_eq_left hi] at e
 have : mag (D.take i) = mag [] := by
  rw [← mag_take_zero (D := D.take i) (k := 0) (fun j _ hj => by
   rw [List.length_take] at hj
   rw [List.getD_eq_getElem?_getD,List.getElem?_take,if_pos (by omega),← List.getD_eq_getElem?_getD]
   exact h j (by omega))]
  rfl
 rw [this] at e
 simpa [mag] using e
theorem mag_pos {D : List Nat} {k : Nat} (hk : k < D.length) (h : D.getD k 0 ≠ 0) : mag D ≠ 0 := by
 have e := mag_append (D.take k) (D.drop k)
 rw [List.take_append_drop,List.drop_eq_getElem_cons hk,mag,List.length_take,Nat.min_eq_left (Nat.le_of_lt hk)] at e
 rw [List.getD_eq_getElem?_getD,List.getElem?_eq_getElem hk] at h
 have h1 : 0 < BB ^ k := Nat.pow_pos BB_pos
 have h2 : 0 < D[k] := Nat.pos_of_ne_zero h
 have h3 : 0 < BB ^ k * (D[k] + BB * mag (D.drop (k + 1))) := Nat.mul_pos h1 (by omega)
 omega
def trimY (x : NumP) (k i : Nat) : NumP := ⟨x.S,(x.D.take (k + 1)).drop i,x.E + i⟩
theorem trimY_len {x : NumP} {k i m : Nat} (hk : k < x.D.length) (him : i + m = k) : (trimY x k i).D.length = m + 1 := by
 show ((x.D.take (k + 1)).drop i).length = m + 1
 rw [List.length_drop,List.length_take]; omega
theorem trimY_at {x : NumP} {k i m : Nat} (him : i + m = k) {j : Nat} (hj : j < m + 1) : (trimY x k i).D.getD j 0 = x.D.getD (i + j) 0 := by
 show ((x.D.take (k + 1)).drop i).getD j 0 = _
 rw [List.getD_eq_getElem?_getD,List.getElem?_drop,List.getElem?_take,if_pos (by omega),← List.getD_eq_getElem?_getD]
theorem trimY_wf {x : NumP} {k i m : Nat} (hdig : ∀ d,d ∈ x.D → d < BB) (hsg : x.S = 1 ∨ x.S = -1) (hk : k < x.D.length) (him : i + m = k) (ht : x.D.getD k 0 ≠ 0) (hi : x.D.getD i 0 ≠ 0) : Wf (trimY x k i) := by
 refine ⟨fun d hd => hdig d (List.mem_of_mem_take (List.mem_of_mem_drop hd)),.inr hsg,?_,fun _ => by rw [trimY_at him (by omega)]; exact hi⟩
 have h1 : mag (trimY x k i).D ≠ 0 := mag_pos (k := m) (by rw [trimY_len hk him]; omega) (by rw [trimY_at him (by omega),him]; exact ht)
 show x.S = 0 ↔ _
 constructor
 ·intro e; omega
 ·intro e; exact absurd e h1
theorem trimY_nv {x : NumP} {k i : Nat} (hlo : -200 ≤ x.E) (hk : k < x.D.length) (hi : i ≤ k) (hz : ∀ j,k + 1 ≤ j → j < x.D.length → x.D.getD j 0 = 0) (hl : ∀ j,j < i → x.D.getD j 0 = 0) : nv (trimY x k i) = nv x := by
 have e1 := mag_take_zero hz
 have e2 := mag_drop_zero (D := x.D.take (k + 1)) (i := i) (fun j hj => by
  rw [List.getD_eq_getElem?_getD,List.getElem?_take,if_pos (by omega),← List.getD_eq_getElem?_getD]; exact hl j hj) (by rw [List.length_take]; omega)
 have e3 : mv (trimY x k i) = mv x := by
  show mag ((x.D.take (k + 1)).drop i) * BB ^ placeE (x.E + i) = mag x.D * BB ^ placeE x.E
  rw [← e1,e2]
  unfold placeE
  rw [show (x.E + (i : Int) + 200).toNat = (x.E + 200).toNat + i by omega,Nat.pow_add]
  rw [Nat.mul_comm (BB ^ i),Nat.mul_assoc,Nat.mul_comm (BB ^ (x.E + 200).toNat)]
 show x.S * (mv (trimY x k i) : Int) = x.S * (mv x : Int)
 rw [e3]
theorem trimY_rng {e : Nat} {x : NumP} {k i m : Nat} (hr : Rng e x) (hk : k < x.D.length) (him : i + m = k) : Rng e (trimY x k i) := by
 refine ⟨?_,?_⟩
 ·show -(e : Int) ≤ x.E + i
  have := hr.lo; omega
 ·rw [trimY_len hk him]
  show x.E + i + ((m + 1 : Nat) : Int) ≤ e
  have := hr.hi; omega
def num0 : NumP := ⟨0,[],0⟩
theorem num0_wf : Wf num0 := ⟨fun _ hd => absurd hd (by simp [num0]),.inl rfl,by simp [num0,mag],fun h => absurd h (by simp [num0])⟩
theorem num0_v (w : World) : NumV w (.agg #[.int .i64 0,.slice none 0 0,.int .i64 0]) num0 := ⟨none,0,rfl,fun h => absurd h (by simp [num0]),by simp [num0]⟩
theorem num0_rng (e : Nat) : Rng e num0 := ⟨by show -(e : Int) ≤ 0; omega,by show (0 : Int) + ((0 : Nat) : Int) ≤ e; omega⟩
theorem num0_nv : nv num0 = 0 := by simp [nv,num0]
theorem nv_zero {x : NumP} (h : mag x.D = 0) : nv x = 0 := by unfold nv mv; rw [h]; simp
theorem trim_walk {x : NumP} {ad : Option Addr} {cap e : Nat} {w : World} (hd : DAt w ad x.D) (hcap : x.D.length ≤ cap) (he : e ≤ 190) (hr : Rng e x) (hdig : ∀ d,d ∈ x.D → d < BB) (hsg : x.S = 1 ∨ x.S = -1) :
  Calls Tryz.prog 162 #[NumA x ad cap] w fun r w' => ∃ y v,r = .returned v ∧ NumV w' v y ∧ Wf y ∧ nv y = nv x ∧ Rng e y ∧ Below w.heap.size w w' := by
 have HB2 : Hid (∀ o o', Below w.heap.size w ((w.alloc o).alloc o')) := fun o o' => ((Below.refl _ _).alloc (Nat.le_refl _) _).alloc (by simp) _
 have HD := Lib.hid hd
 have HR := Lib.hid hr
 have HG := Lib.hid hdig
 have HSG := Lib.hid hsg
 have HCP := Lib.hid hcap
 unfold NumA
 clear hd hr hdig hsg hcap
 go_enter Tryz.func162,Tryz.ntmps162
 go_wp2
 go_loop [3] (fun s3 => ∃ k : Nat,k ≤ x.D.length ∧ s3 = .slice ad k cap ∧ Hid (∀ j,k ≤ j → j < x.D.length → x.D.getD j 0 = 0)) (fun s3 => slLenK s3)
 case atStart => exact ⟨_,Nat.le_refl _,rfl,fun j h1 h2 => absurd h2 (by omega)⟩
 case round =>
  obtain ⟨k,hk,rfl,HZ⟩ := hrel
  cases k with
  | zero =>
   go_wp2
   go_loop [3,4] (fun s3 s4 => s3 = .slice ad 0 cap ∧ s4 = .int .i64 x.E) (fun _ _ => 0)
   case atStart => exact ⟨rfl,rfl⟩
   case round =>
    obtain ⟨rfl,rfl⟩ := hrel
    go_wp2
    go_returns
    have hm : mag x.D = 0 := by rw [← mag_take_zero HZ.out]; rfl
    exact ⟨num0,_,rfl,num0_v _,num0_wf,by rw [num0_nv,nv_zero hm],num0_rng _,HB2.out _ _⟩
  | succ k =>
   obtain ⟨b,off,rfl,hlt,hc⟩ := HD.out (by omega)
   have HC : Hid (∀ o o' j,j < x.D.length → ((w.alloc o).alloc o').cell? ⟨b,off + j,none⟩ = some (.int .i64 (x.D.getD j 0 : Nat))) := fun o o' j hj => cell_al (cell_al (hc j hj) o) o'
   have HLT := Lib.hid hlt
   have hck := fun o o' => HC.out o o' k (by omega)
   have hwk : wrap64 (k : Int) = k := by have := HR.out.lo; have := HR.out.hi; unfold wrap64; omega
   have hkc : (k : Int) ≤ (cap : Int) := by have := HCP.out; omega
   have hk0 : (0 : Int) ≤ (k : Int) := by omega
   clear hc hlt
   by_cases hz : x.D.getD k 0 = 0
   ·rw [hz] at hck
    go_wp2
    go_round
    case rel =>
     refine ⟨k,by omega,rfl,fun j h1 h2 => ?_⟩
     rcases Nat.lt_or_ge k j with h | h
     ·exact HZ.out j h h2
     ·have : j = k := by omega
      subst this; exact hz
    case measure => simp only [slLenK]; omega
   ·obtain ⟨dk,hdk⟩ : ∃ d,Hid (x.D.getD k 0 = d) := ⟨_,rfl⟩
    rw [hdk.out] at hck
    have hzz : ¬dk = 0 := by rw [← hdk.out]; exact hz
    have hzi : ¬(dk : Int) = 0 := by omega
    have HKL : Hid (k < x.D.length) := by unfold Hid; omega
    have HTZ := Lib.hid hz
    clear hz hk
    go_wp2
    clear hck hwk hkc hk0 hzz hzi
    go_loop [3,4] (fun s3 s4 => ∃ i m c : Nat,i + m = k ∧ m + 1 ≤ c ∧ s3 = .slice (some ⟨b,off + i,none⟩) (m + 1) c ∧ s4 = .int .i64 (x.E + i) ∧ Hid (∀ j,j < i → x.D.getD j 0 = 0)) (fun s3 _ => slLenK s3)
    case atStart => exact ⟨0,k,cap,by omega,by have := HCP.out; have := HKL.out; omega,rfl,by simp,fun j hj => absurd hj (by omega)⟩
    case round =>
     obtain ⟨i,m,c,him,hmc,rfl,rfl,HL⟩ := hrel
     have hci := fun o o' => HC.out o o' i (by have := HKL.out; omega)
     have hm1 : ¬((m : Int) + 1 = 0) := by omega
     have hm2 : (0 : Int) < (m : Int) + 1 := by omega
     by_cases hz : x.D.getD i 0 = 0
     ·rw [hz] at hci
      obtain ⟨m,rfl⟩ : ∃ m', m = m' + 1 := ⟨m - 1,by
       have : m ≠ 0 := fun e => HTZ.out (by rw [← him,e,Nat.add_zero]; exact hz)
       omega⟩
      have hwe : wrap64 (x.E + (i : Int) + 1) = x.E + ((i + 1 : Nat) : Int) := by have := HR.out.lo; have := HR.out.hi; have := HKL.out; unfold wrap64; omega
      go_wp2
      go_round
      case rel => exact ⟨i + 1,m,c - 1,by omega,by omega,rfl,by rw [hwe],fun j hj => by
       rcases Nat.lt_or_ge j i with h | h
       ·exact HL.out j h
       ·have : j = i := by omega
        subst this; exact hz⟩
      case measure => simp only [slLenK]; omega
     ·obtain ⟨di,hdi⟩ : ∃ d,Hid (x.D.getD i 0 = d) := ⟨_,rfl⟩
      rw [hdi.out] at hci
      have hzz : ¬di = 0 := by rw [← hdi.out]; exact hz
      have hzi : ¬(di : Int) = 0 := by omega
      have HZI := Lib.hid hz
      clear hz
      go_wp2
      go_returns
      have hk := HKL.out
      refine ⟨trimY x k i,_,rfl,⟨some ⟨b,off + i,none⟩,c,?_,fun _ => ⟨b,off + i,rfl,?_,fun j hj => ?_⟩,?_⟩,trimY_wf HG.out HSG.out hk him HTZ.out HZI.out,trimY_nv (by have := HR.out.lo; omega) hk (by omega) HZ.out HL.out,trimY_rng HR.out hk him,HB2.out _ _⟩
      ·unfold NumA; rw [trimY_len hk him]; rfl
      ·exact HLT.out.below (HB2.out _ _)
      ·rw [trimY_len hk him] at hj
       rw [trimY_at him hj,Nat.add_assoc]
       exact HC.out _ _ _ (by omega)
      ·rw [trimY_len hk him]; exact hmc
def Box3 (T : TypeId) (W : World) (b : Nat) (x y z : Value) : Prop := W.heap[b]? = some (.cells #[x,y,z] T)
section
variable {T : TypeId} {W W' : World} {b B : Nat} {x y z v : Value}
theorem Box3.c (h : Box3 T W b x y z) : C3 W b x y z := by
 unfold Box3 at h
 refine ⟨?_,?_,?_⟩ <;> simp [World.cell?,h]
theorem Box3.fz (h : Box3 T W b x y z) (i : Nat) : W.frozen? ⟨b,i,none⟩ = false := by
 unfold Box3 at h
 simp [World.frozen?,h]
theorem Box3.lt (h : Box3 T W b x y z) : b < W.heap.size := by
 unfold Box3 at h
 exact (Array.getElem?_eq_some_iff.1 h).1
theorem Box3.low (h : Box3 T W b x y z) (hb : Below B W W') (hl : b < B) : Box3 T W' b x y z := (hb.block b hl).trans h
theorem Box3.below (h : Box3 T W b x y z) (hb : Below W.heap.size W W') : Box3 T W' b x y z := h.low hb h.lt
theorem Box3.al (h : Box3 T W b x y z) (o : Obj) : Box3 T (W.alloc o) b x y z := h.below ((Below.refl _ _).alloc (Nat.le_refl _) o)
theorem Box3.new (W : World) (x y z : Value) (T : TypeId) : Box3 T (W.alloc (.cells #[x,y,z] T)) W.heap.size x y z := by
 show (W.heap.push _)[W.heap.size]? = _
 simp
theorem Box3.grown {row : Option Nat} (h : Box3 T W b x y z) (hg : W.grownBy W' row) (hr : row ≠ some b) : Box3 T W' b x y z := (hg.block b h.lt (fun e => hr e.symm)).trans h
theorem Box3.far {p : Addr} (h : Box3 T W b x y z) (hp : b ≠ p.block) (v : Value) : Box3 T (W.setCell p v) b x y z := (Below.heap_setCell W p v b hp).trans h
theorem Box3.set0 (h : Box3 T W b x y z) (v : Value) : Box3 T (W.setCell ⟨b,0,none⟩ v) b v y z := by
 unfold Box3 at h ⊢
 simp [World.setCell,Array.getElem?_modify,h]
theorem Box3.set1 (h : Box3 T W b x y z) (v : Value) : Box3 T (W.setCell ⟨b,1,none⟩ v) b x v z := by
 unfold Box3 at h ⊢
 simp [World.setCell,Array.getElem?_modify,h]
theorem Box3.set2 (h : Box3 T W b x y z) (v : Value) : Box3 T (W.setCell ⟨b,2,none⟩ v) b x y v := by
 unfold Box3 at h ⊢
 simp [World.setCell,Array.getElem?_modify,h]
theorem Box3.put (h : Box3 T W b x y z) (x' y' z' : Value) : Box3 T (((W.setCell ⟨b,0,none⟩ x').setCell ⟨b,1,none⟩ y').setCell ⟨b,2,none⟩ z') b x' y' z' := ((h.set0 x').set1 y').set2 z'
end
theorem DAt.put {T : TypeId} {w : World} {r : Nat} {ad : Option Addr} {x : NumP} (h : DAt w ad x.D) (hL : Lead x) (hB : Box3 T w r (.int .i64 0) (.slice none 0 0) (.int .i64 0)) (x' y' z' : Value) :
  DAt (((w.setCell ⟨r,0,none⟩ x').setCell ⟨r,1,none⟩ y').setCell ⟨r,2,none⟩ z') ad x.D := by
 intro h0
 obtain ⟨b,off,rfl,hlt,hc⟩ := h h0
 have hne : b ≠ r := by
  intro e
  subst e
  have h1 := hc 0 h0
  have h2 := hL h0
  unfold Box3 at hB
  rw [Nat.add_zero] at h1
  generalize x.D.getD 0 0 = d0 at h1 h2
  have : off = 0 ∨ off = 1 ∨ off = 2 ∨ 3 ≤ off := by omega
  rcases this with rfl | rfl | rfl | h3
  ·simp [World.cell?,hB] at h1; omega
  ·simp [World.cell?,hB] at h1
  ·simp [World.cell?,hB] at h1; omega
  ·have h4 : w.cell? ⟨b,off,none⟩ = none := by
    simp [World.cell?,hB]; omega
   rw [h4] at h1; cases h1
 have hsame : (((w.setCell ⟨r,0,none⟩ x').setCell ⟨r,1,none⟩ y').setCell ⟨r,2,none⟩ z').heap[b]? = w.heap[b]? := by
  rw [Below.heap_setCell _ _ _ _ (by exact hne),Below.heap_setCell _ _ _ _ (by exact hne),Below.heap_setCell _ _ _ _ (by exact hne)]
 refine ⟨b,off,rfl,hlt.same hsame,fun i hi => ?_⟩
 rw [← hc i hi]
 exact World.cell?_of_block hsame
theorem put_below {B : Nat} {w0 w : World} {r : Nat} (h : Below B w0 w) (hr : B ≤ r) (x' y' z' : Value) : Below B w0 (((w.setCell ⟨r,0,none⟩ x').setCell ⟨r,1,none⟩ y').setCell ⟨r,2,none⟩ z') :=
 ((h.setCell (p := ⟨r,0,none⟩) hr x').setCell (p := ⟨r,1,none⟩) hr y').setCell (p := ⟨r,2,none⟩) hr z'
def negP (x : NumP) : NumP := ⟨-x.S,x.D,x.E⟩
theorem negP_wf {x : NumP} (h : Wf x) : Wf (negP x) := ⟨h.dig,by have := h.sg; show -x.S = 0 ∨ -x.S = 1 ∨ -x.S = -1; omega,by have := h.z; show -x.S = 0 ↔ mag x.D = 0; rw [← this]; omega,h.lead⟩
theorem negP_nv (x : NumP) : nv (negP x) = -nv x := by show -x.S * (mv x : Int) = -(x.S * (mv x : Int)); rw [Int.neg_mul]
theorem negP_rng {e : Nat} {x : NumP} (h : Rng e x) : Rng e (negP x) := ⟨h.lo,h.hi⟩
theorem nneg_walk {x : NumP} {ad : Option Addr} {cap : Nat} {w : World} (hw : Wf x) :
  Calls Tryz.prog 163 #[NumA x ad cap] w fun r w' => r = .returned (NumA (negP x) ad cap) ∧ Below w.heap.size w w' := by
 have hs : wrap64 (-x.S) = -x.S := by have := hw.sg; unfold wrap64; omega
 unfold NumA negP
 dsimp only
 go_enter Tryz.func163,Tryz.ntmps163
 go_wp2
 go_returns
 exact ⟨rfl,((Below.refl _ _).alloc (Nat.le_refl _) _).alloc (by simp) _⟩
theorem nadd_step {p q : Nat} {sg c v c' : Int} (h : v + c' * BB = p + sg * q + c) {A X Y P : Int} (hA : A + c * P = X + sg * Y) : A + v * P + c' * (P * BB) = X + p * P + sg * (Y + q * P) := by
 have e : (v + c' * BB) * P = (p + sg * q + c) * P := by rw [h]
 rw [Int.add_mul,Int.add_mul,Int.add_mul] at e
 rw [Int.mul_add,← Int.mul_assoc sg (q : Int) P,Int.mul_comm P BB,← Int.mul_assoc]
 omega
theorem wrap_sum {p q : Nat} {sg c : Int} (hsg : sg = 1 ∨ sg = -1) (hp : p < BB) (hq : q < BB) (hc : -2 ≤ c ∧ c ≤ 2) : wrap64 (wrap64 ((p : Int) + wrap64 (sg * (q : Int))) + c) = p + sg * q + c := by
 unfold BB at hp hq
 rcases hsg with rfl | rfl
 ·unfold wrap64; omega
 ·unfold wrap64; omega
theorem mag_snoc (l : List Nat) (d : Nat) : mag (l ++ [d]) = mag l + BB ^ l.length * d := by rw [mag_append]; simp [mag]
theorem nadd_end {L P X Y c sg : Int} (hL : 0 ≤ L) (hL2 : L < P) (h : L + c * P = X + sg * Y) (h0 : 0 ≤ X + sg * Y) (h1 : X + sg * Y < P) (hc : -2 ≤ c ∧ c ≤ 2) : c = 0 := by
 rcases (show c = -2 ∨ c = -1 ∨ c = 0 ∨ c = 1 ∨ c = 2 by omega) with rfl | rfl | rfl | rfl | rfl <;> omega
end Go.Proofs.YtbagikgpgdlkcaaGreatDoor
namespace Go.Proofs.YtbagikgpgdlkcaaGreatDoor
open Go.RowKit Tvf Go.Maps Go.WideMaps
theorem infoI64 : (Tryz.prog.info? 2).map (fun i => (i.zero,i.size,i.bytes)) = some (some (.int .i64 0),1,8) := by kernel_rfl
def dC (l : List Nat) : List Value := l.map (fun d => .int .i64 (d : Nat))
theorem dC_len (l : List Nat) : (dC l).length = l.length := List.length_map _
theorem dC_snoc (l : List Nat) (d : Nat) : dC (l ++ [d]) = dC l ++ [.int .i64 (d : Nat)] := by unfold dC; rw [List.map_append]; rfl
theorem dC_at {l : List Nat} {i : Nat} (h : i < l.length) : (dC l)[i]? = some (.int .i64 (l.getD i 0 : Nat)) := by
 unfold dC; rw [List.getElem?_map,List.getElem?_eq_getElem h,List.getD_eq_getElem?_getD,List.getElem?_eq_getElem h]; rfl
theorem own_digits {w : World} {base : Nat} {v : Value} {l : List Nat} (h : w.ownsRow base 2 1 v l.length (dC l)) : ∃ ad cap,v = .slice ad l.length cap ∧ l.length ≤ cap ∧ DAt w ad l := by
 rcases h.2 with ⟨h1,h2⟩ | ⟨g,cap,cur,rfl,hb,hh,hn,hm,hs,ht⟩
 ·exact ⟨none,0,by rw [h2]; exact h1,by omega,fun hl => absurd h2 (by omega)⟩
 ·refine ⟨_,cap,rfl,hn,fun _ => ⟨g,0,rfl,⟨cur,(0,0),hh⟩,fun i hi => ?_⟩⟩
  rw [Nat.zero_add,h.cellAt i (by omega)]
  exact dC_at hi
theorem nadd_val {x y : NumP} {f t : Int} {n : Nat} {sg c : Int} {l : List Nat} (hf1 : f ≤ x.E) (hf2 : f ≤ y.E) (ht1 : x.E + x.D.length ≤ t) (ht2 : y.E + y.D.length ≤ t) (hn : t = f + n) (h200 : -200 ≤ f) (hwx : Wf x) (hwy : Wf y)
  (hsg : (sg = 1 ∧ y.S = x.S) ∨ (sg = -1 ∧ y.S = -x.S ∧ mv y ≤ mv x)) (hl : l.length = n + 1) (hd : ∀ d,d ∈ l → d < BB) (hc : -2 ≤ c ∧ c ≤ 2) (h : (mag l : Int) + c * (BB ^ (n + 1) : Nat) = tot x f (n + 1) + sg * tot y f (n + 1)) : nv ⟨x.S,l,f⟩ = nv x + nv y := by
 have zx : digP x (f + (n : Int)) = 0 := by unfold digP; rw [if_pos (.inr (by omega))]
 have zy : digP y (f + (n : Int)) = 0 := by unfold digP; rw [if_pos (.inr (by omega))]
 have ex : tot x f (n + 1) = tot x f n := by simp only [tot]; rw [zx]; omega
 have ey : tot y f (n + 1) = tot y f n := by simp only [tot]; rw [zy]; omega
 have mx := tot_mv hf1 (n := n) (by omega) h200
 have my := tot_mv hf2 (n := n) (by omega) h200
 have lx := tot_lt hwx.dig f n
 have ly := tot_lt hwy.dig f n
 have hP : 0 < BB ^ n := Nat.pow_pos BB_pos
 have hPP : BB ^ (n + 1) = BB ^ n * 16777216 := by rw [Nat.pow_succ,BB_eq]
 have hml := mag_lt l hd
 rw [hl] at hml
 rw [ex,ey] at h
 generalize tot x f n = X at *
 generalize tot y f n = Y at *
 have hp : 0 < BB ^ placeE f := Nat.pow_pos BB_pos
 have h0 : 0 ≤ (X : Int) + sg * Y := by
  rcases hsg with ⟨rfl,_⟩ | ⟨rfl,_,hle⟩
  ·omega
  ·have : Y ≤ X := by
    rcases Nat.lt_or_ge X Y with hlt | hge
    ·have := Nat.mul_lt_mul_of_pos_right hlt hp
     rw [mx,my] at this; omega
    ·exact hge
   omega
 have h1 : (X : Int) + sg * Y < (BB ^ (n + 1) : Nat) := by
  rw [hPP]
  rcases hsg with ⟨rfl,_⟩ | ⟨rfl,_,_⟩ <;> omega
 have hc0 : c = 0 := nadd_end (by omega) (by omega) h h0 h1 hc
 subst hc0
 have hm : (mag l : Int) = X + sg * Y := by omega
 show x.S * ((mag l * BB ^ placeE f : Nat) : Int) = x.S * (mv x : Int) + y.S * (mv y : Int)
 rw [Int.natCast_mul,hm,← mx,← my,Int.natCast_mul,Int.natCast_mul]
 rcases hsg with ⟨rfl,e⟩ | ⟨rfl,e,_⟩
 ·rw [e,Int.one_mul,Int.add_mul,Int.mul_add]
 ·rw [e,Int.add_mul,Int.mul_add,Int.neg_one_mul,Int.neg_mul,Int.neg_mul,Int.mul_neg]
structure AddInv (x y : NumP) (f sg : Int) (W4 : World) (B8 : Nat) (wr : World) (k : Nat) (c : Int) (l : List Nat) (v8 : Value) : Prop where
 len : l.length = k
 dig : ∀ d,d ∈ l → d < BB
 cr : -2 ≤ c ∧ c ≤ 2
 sum : (mag l : Int) + c * (BB ^ k : Nat) = tot x f k + sg * tot y f k
 own : wr.ownsRow (B8 + 1) 2 1 v8 l.length (dC l)
 box : Box3 124 wr B8 (.int .i64 x.S) v8 (.int .i64 f)
 low : Below B8 W4 wr
theorem AddInv.step {x y : NumP} {f sg : Int} {W4 : World} {B8 : Nat} {wr w2 : World} {k : Nat} {c c' : Int} {l : List Nat} {v8 v' : Value} {d : Nat} (h : AddInv x y f sg W4 B8 wr k c l v8) (hd : d < BB) (hc : -2 ≤ c' ∧ c' ≤ 2) (hv : (d : Int) + c' * BB = digP x (f + k) + sg * digP y (f + k) + c)
  (hown : w2.ownsRow (B8 + 1) 2 1 v' (l ++ [d]).length (dC (l ++ [d]))) (hbox : Box3 124 w2 B8 (.int .i64 x.S) v' (.int .i64 f)) (hlow : Below B8 W4 w2) : AddInv x y f sg W4 B8 w2 (k + 1) c' (l ++ [d]) v' := by
 refine ⟨by rw [List.length_append,h.len]; rfl,fun z hz => ?_,hc,?_,hown,hbox,hlow⟩
 ·rcases List.mem_append.1 hz with hz | hz
  ·exact h.dig z hz
  ·simp only [List.mem_cons,List.not_mem_nil,or_false] at hz; subst hz; exact hd
 ·have := nadd_step (p := digP x (f + k)) (q := digP y (f + k)) (P := (BB ^ k : Nat)) hv h.sum
  simp only [tot]
  rw [mag_snoc,h.len,Nat.pow_succ]
  rw [Nat.mul_comm (BB ^ k) d]
  simp only [Int.natCast_add,Int.natCast_mul] at this ⊢
  exact this
theorem AddInv.below {x y : NumP} {f sg : Int} {W4 : World} {B8 : Nat} {wr w' : World} {k : Nat} {c : Int} {l : List Nat} {v8 : Value} (h : AddInv x y f sg W4 B8 wr k c l v8) (hb : Below wr.heap.size wr w') : AddInv x y f sg W4 B8 w' k c l v8 :=
 ⟨h.len,h.dig,h.cr,h.sum,ownsRow_same h.own (fun g hg => hb.block g (h.own.lt g hg).2),h.box.below hb,h.low.trans (hb.mono (Nat.le_of_lt h.box.lt))⟩
theorem AddInv.push {x y : NumP} {f sg : Int} {W4 : World} {B8 : Nat} {wr w2 : World} {k : Nat} {c c' : Int} {l : List Nat} {v8 v' : Value} {d : Nat} {o : Obj} (h : AddInv x y f sg W4 B8 wr k c l v8) (hd : d < BB) (hc : -2 ≤ c' ∧ c' ≤ 2) (hv : (d : Int) + c' * 16777216 = digP x (f + k) + sg * digP y (f + k) + c)
  (hown : w2.ownsRow (B8 + 1) 2 1 v' (l.length + 1) (dC l ++ [.int .i64 (d : Nat)])) (hg : (wr.alloc o).grownBy w2 v8.ownBlock) :
  AddInv x y f sg W4 B8 (w2.setCell ⟨B8,1,none⟩ v') (k + 1) c' (l ++ [d]) v' ∧ Box3 124 w2 B8 (.int .i64 x.S) v8 (.int .i64 f) := by
 have hne : v8.ownBlock ≠ some B8 := fun e => by have := (h.own.lt B8 e).1; omega
 have hbox := (h.box.al o).grown hg hne
 have hlt := h.box.lt
 refine ⟨h.step hd hc (by rw [BB_eq]; exact hv) ?_ (hbox.set1 v') ?_,hbox⟩
 ·rw [List.length_append,dC_snoc]
  exact ownsRow_same hown (fun g hg' => Below.heap_setCell _ _ _ _ (by have := (hown.lt g hg').1; show g ≠ B8; omega))
 ·refine Below.setCell (p := ⟨B8,1,none⟩) ?_ (Nat.le_refl B8) _
  refine (h.low.alloc (Nat.le_of_lt hlt) o).grown hg (by simp; omega) (fun j hj => ?_)
  have := (h.own.lt j hj).1
  omega
theorem boxes3 {w Wp : World} (a1 a2 a3 b1 b2 b3 c1 c2 c3 : Value) (T : TypeId) (h : Below (((w.alloc (.cells #[a1,a2,a3] T)).alloc (.cells #[b1,b2,b3] T)).alloc (.cells #[c1,c2,c3] T)).heap.size (((w.alloc (.cells #[a1,a2,a3] T)).alloc (.cells #[b1,b2,b3] T)).alloc (.cells #[c1,c2,c3] T)) Wp) :
  Box3 T Wp w.heap.size a1 a2 a3 ∧ Box3 T Wp (w.heap.size + 1) b1 b2 b3 ∧ Box3 T Wp (w.heap.size + 1 + 1) c1 c2 c3 ∧ Below w.heap.size w Wp ∧ w.heap.size + 1 + 1 < Wp.heap.size := by
 have e1 : (w.alloc (.cells #[a1,a2,a3] T)).heap.size = w.heap.size + 1 := by simp
 have e2 : ((w.alloc (.cells #[a1,a2,a3] T)).alloc (.cells #[b1,b2,b3] T)).heap.size = w.heap.size + 1 + 1 := by simp
 have e3 : (((w.alloc (.cells #[a1,a2,a3] T)).alloc (.cells #[b1,b2,b3] T)).alloc (.cells #[c1,c2,c3] T)).heap.size = w.heap.size + 1 + 1 + 1 := by simp
 have h1 := (((Box3.new w a1 a2 a3 T).al (.cells #[b1,b2,b3] T)).al (.cells #[c1,c2,c3] T)).below h
 have h2 := ((Box3.new (w.alloc (.cells #[a1,a2,a3] T)) b1 b2 b3 T).al (.cells #[c1,c2,c3] T)).below h
 have h3 := (Box3.new ((w.alloc (.cells #[a1,a2,a3] T)).alloc (.cells #[b1,b2,b3] T)) c1 c2 c3 T).below h
 rw [e1] at h2
 rw [e2] at h3
 have hs := h.size
 rw [e3] at hs
 refine ⟨h1,h2,h3,?_,by omega⟩
 have b3 : Below w.heap.size w (((w.alloc (.cells #[a1,a2,a3] T)).alloc (.cells #[b1,b2,b3] T)).alloc (.cells #[c1,c2,c3] T)) := (((Below.refl _ w).alloc (Nat.le_refl _) _).alloc (by simp) _).alloc (by simp; omega) _
 exact b3.trans (h.mono b3.size)
theorem boxes4 {w Wp : World} (a1 a2 a3 b1 b2 b3 c1 c2 c3 d1 d2 d3 : Value) (T : TypeId) (h : Below (((w.alloc (.cells #[a1,a2,a3] T)).alloc (.cells #[b1,b2,b3] T)).alloc (.cells #[c1,c2,c3] T)).heap.size (((w.alloc (.cells #[a1,a2,a3] T)).alloc (.cells #[b1,b2,b3] T)).alloc (.cells #[c1,c2,c3] T)) Wp) :
  Box3 T (Wp.alloc (.cells #[d1,d2,d3] T)) w.heap.size a1 a2 a3 ∧ Box3 T (Wp.alloc (.cells #[d1,d2,d3] T)) (w.heap.size + 1) b1 b2 b3 ∧ Box3 T (Wp.alloc (.cells #[d1,d2,d3] T)) (w.heap.size + 1 + 1) c1 c2 c3 ∧ Box3 T (Wp.alloc (.cells #[d1,d2,d3] T)) Wp.heap.size d1 d2 d3 ∧
   Below w.heap.size w (Wp.alloc (.cells #[d1,d2,d3] T)) ∧ w.heap.size + 1 + 1 < Wp.heap.size ∧ Wp.heap.size < (Wp.alloc (.cells #[d1,d2,d3] T)).heap.size := by
 obtain ⟨h1,h2,h3,h4,h5⟩ := boxes3 a1 a2 a3 b1 b2 b3 c1 c2 c3 T h
 exact ⟨h1.al _,h2.al _,h3.al _,Box3.new Wp d1 d2 d3 T,h4.alloc h4.size _,h5,by simp⟩
end Go.Proofs.YtbagikgpgdlkcaaGreatDoor
