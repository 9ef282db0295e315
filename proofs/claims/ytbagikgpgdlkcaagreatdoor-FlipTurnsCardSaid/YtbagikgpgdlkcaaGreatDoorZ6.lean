/- Part of the proof. No conditions. -/
import Derived.Test.YtbagikgpgdlkcaaGreatDoorZ5
set_option linter.all false
set_option maxHeartbeats 8000000
set_option maxRecDepth 100000
namespace Go.Proofs.YtbagikgpgdlkcaaGreatDoor
open Go.RowKit Tvf
theorem check_walk (l : List Nat) (v : Value) (hl : ∀ x,x ∈ l → fin x) (w : World) (hv : FSl w v l) :
  Calls Tryz.prog 159 #[v] w fun e w' => e = .returned (.bool (allB l 1 9065746049896808448)) ∧ w = w' := by
 have HA := Lib.hid (all_walk l v 1 9065746049896808448 fin_tiny (by rw [fval_tiny]; decide) hl w hv)
 clear hl
 go_enter Tryz.func159,Tryz.ntmps159
 go_wp2_with (go_at_call 155; refine (HA.out).mono ?_; rintro e w' ⟨rfl,rfl⟩)
 go_ret
 exact ⟨rfl,rfl⟩
theorem safe_all_walk (l : List Nat) (v : Value) (hl : ∀ x,x ∈ l → fin x) (w : World) (hv : FSl w v l) :
  Calls Tryz.prog 157 #[v] w fun e w' => e = .returned (.bool (allB l 2580562586483294208 6633802251116740608)) ∧ w = w' := by
 have HA := Lib.hid (all_walk l v 2580562586483294208 6633802251116740608 (by unfold fin; omega) (by rw [fval_m450]; exact Int.pow_pos (by omega)) hl w hv)
 clear hl
 go_enter Tryz.func157,Tryz.ntmps157
 go_wp2_with (go_at_call 155; refine (HA.out).mono ?_; rintro e w' ⟨rfl,rfl⟩)
 go_ret
 exact ⟨rfl,rfl⟩
theorem sign_last (l : List Int) (z : Int) (p : Nat) (h : nov p (l ++ [z])) : (0 < isum (l ++ [z]) ↔ 0 < z) ∧ (isum (l ++ [z]) < 0 ↔ z < 0) ∧ z ≠ 0 := by
 have gen : ∀ (l : List Int) (p : Nat),nov p (l ++ [z]) → absSum l < z.natAbs ∧ z ≠ 0 := by
  intro l p h
  have hd := dn_of_nov h
  rw [List.reverse_append] at hd
  obtain ⟨h0,⟨k,h1,h2⟩,_⟩ : dn (z :: l.reverse) := hd
  have hab : absSum l.reverse = absSum l := by
   have gen : ∀ a : List Int,absSum a.reverse = absSum a := by
    intro a
    induction a with
    | nil => rfl
    | cons x r ih => rw [List.reverse_cons,absSum_append,ih]; simp only [absSum]; omega
   exact gen l
  rw [hab] at h2
  exact ⟨Nat.lt_of_lt_of_le h2 (natAbs_ge_of_dvd h1 h0),h0⟩
 obtain ⟨h1,h2⟩ := gen l p h
 have h3 := isum_le l
 rw [isum_append]
 simp only [isum]
 omega
def sgnI (z : Int) : Int := if z < 0 then -1 else if 0 < z then 1 else 0
theorem sign_walk (l : List Nat) (v : Value) (hl : ∀ x,x ∈ l → fin x) (hn : nov 0 (l.map fval)) (hc : allB l 1 9065746049896808448 = true) (w : World) (hv : FSl w v l) :
  Calls Tryz.prog 121 #[v] w fun e w' => e = .returned (.int .i64 (sgnI (isum (l.map fval)))) ∧ w = w' := by
 have HA := Lib.hid (check_walk l v hl w hv)
 rw [hc] at HA
 obtain ⟨ad,cap,rfl,hcell⟩ := hv.form
 have h32 := hv.1
 by_cases h0 : 0 < l.length
 ·obtain ⟨b,off,rfl,_,hcl⟩ := hcell h0
  have hx := hcl (l.length - 1) (by omega)
  have hl1 : ((l.length : Int) == 0) = false := by rw [beq_eq_false_iff_ne]; omega
  have hi1 : ((l.length : Int) - 1).toNat = l.length - 1 := by omega
  have hfx := hl _ (getD_mem (l := l) (k := l.length - 1) (by omega))
  have hlast : l = l.take (l.length - 1) ++ [l.getD (l.length - 1) 0] := by
   have := take_snoc' l (l.length - 1) (by omega)
   rw [show l.length - 1 + 1 = l.length by omega,List.take_of_length_le (Nat.le_refl _)] at this
   exact this
  have hsg := sign_last ((l.take (l.length - 1)).map fval) (fval (l.getD (l.length - 1) 0)) 0 (by
   rw [hlast,List.map_append] at hn; exact hn)
  have hmap : l.map fval = (l.take (l.length - 1)).map fval ++ [fval (l.getD (l.length - 1) 0)] := by
   conv => lhs; rw [hlast]
   rw [List.map_append]; rfl
  rw [← hmap] at hsg
  have hlt : flt (l.getD (l.length - 1) 0) 0 = decide (fval (l.getD (l.length - 1) 0) < 0) := by
   rw [flt_val hfx (by unfold fin; omega)]; rfl
  have HS : Hid (sgnI (isum (l.map fval)) = if flt (l.getD (l.length - 1) 0) 0 then -1 else 1) := by
   unfold Hid sgnI
   rw [hlt]
   by_cases h : fval (l.getD (l.length - 1) 0) < 0
   ·rw [if_pos (by omega),if_pos (by simpa using h)]
   ·rw [if_neg (by omega),if_pos (by omega),if_neg (by simpa using h)]
  clear hl hn hc hcell hcl hfx hlast hsg hmap hlt hv
  generalize l.getD (l.length - 1) 0 = x at *
  cases h : flt x 0
  all_goals
   rw [h] at HS
   go_enter Tryz.func121,Tryz.ntmps121
   go_wp2_with (go_at_call 159; refine (HA.out).mono ?_; rintro e w' ⟨rfl,rfl⟩)
   go_ret
   exact ⟨by rw [HS.out]; rfl,rfl⟩
 ·have hnil : l = [] := List.length_eq_zero_iff.1 (by omega)
  subst hnil
  clear hl hn hc hcell h32 h0 hv
  go_enter Tryz.func121,Tryz.ntmps121
  go_wp2_with (go_at_call 159; refine (HA.out).mono ?_; rintro e w' ⟨rfl,rfl⟩)
  go_ret
  exact ⟨rfl,rfl⟩
theorem neg_walk (l : List Nat) (v : Value) (w : World) (hlen : l.length ≤ 4000) (hv : FSl w v l) :
  Calls Tryz.prog 119 #[v] w fun e w' => ∃ v', e = .returned v' ∧ FSl w' v' (l.map fopp) ∧ Below w.heap.size w w' := by
 obtain ⟨ad,cap,rfl,hcell⟩ := hv.form
 obtain ⟨i0,hi,hz0,hz1,hz2⟩ := info_parts infoF
 have H64 := Lib.hid hv.2.1
 clear hv
 have HC := Lib.hid hcell
 clear hcell
 go_enter Tryz.func119,Tryz.ntmps119
 go_wp2_with (at_make; refine wpList_make_full _ rfl _ _ 143 rfl w.heap.size 66 i0 (.float .f64 0) 1 Tryz.underlying143 hi hz0 hz1 .i64 .i64 _ _ l.length rfl rfl rfl rfl ?c2 ?c3 (Nat.le_refl _) ?_)
 case c2 => rw [hz2]; omega
 case c3 => unfold maxLen; omega
 intro w0 hown0 hgrow0
 have hb0 : Below w.heap.size w w0 := (Below.refl _ _).grown hgrow0 (Nat.le_refl _) (fun k hk => by cases hk)
 have hsz0 : w.heap.size < w0.heap.size := (World.ownsRow.lt hown0 _ rfl).2
 have hfz0 := fun j => World.ownsRow.frozenAt hown0 j
 have hcl0 : ∀ j,j < l.length → w0.cell? ⟨w.heap.size,j,none⟩ = some (.float .f64 0) := by
  intro j hj
  have := World.ownsRow.cells hown0 (g := w.heap.size) rfl j (.float .f64 0) (by
   show (madeCells #[Value.float .f64 0] l.length).toList[j]? = _
   rw [toList_madeCells_one]; simp [hj])
  by_cases h0 : j = 0
  ·subst h0; simpa [Addr.add] using this
  ·simpa [Addr.add,h0] using this
 clear hgrow0 hown0
 have HF0 := Lib.hid hfz0
 have HC0 := Lib.hid hcl0
 clear hfz0 hcl0
 go_wp2
 go_loopw [11] (fun i wr => ∃ k : Nat,k ≤ l.length ∧ i = .int .i64 k ∧ Hid (∀ j,wr.frozen? ⟨w.heap.size,j,none⟩ = false) ∧ Hid (∀ j,j < l.length → wr.cell? ⟨w.heap.size,j,none⟩ = some (.float .f64 (if j < k then fopp (l.getD j 0) else 0))) ∧ Below w.heap.size w wr ∧ w.heap.size < wr.heap.size) (fun i _ => l.length - (intOf i).toNat)
 case atStart => exact ⟨0,Nat.zero_le _,rfl,HF0,fun j hj => by rw [HC0.out j hj,if_neg (by omega)],hb0,hsz0⟩
 case round =>
  clear hb0 hsz0 HF0 HC0
  obtain ⟨k,hk,rfl,HF,HCL,hbw,hsz⟩ := hrel
  by_cases hlt : k < l.length
  ·obtain ⟨bb,off,rfl,hbb,hc⟩ := HC.out (by omega)
   have hck : wr.cell? ⟨bb,off + k,none⟩ = some (.float .f64 (l.getD k 0)) := (hbw.cell (p := ⟨bb,off + k,none⟩) hbb).trans (hc k hlt)
   have hfk := HF.out k
   obtain ⟨old,hold⟩ : ∃ old,wr.cell? ⟨w.heap.size,k,none⟩ = some old := ⟨_,HCL.out k hlt⟩
   clear hc
   have HX : Hid (∃ x,x = l.getD k 0) := ⟨_,rfl⟩
   generalize hgx : l.getD k 0 = x at *
   have HGX := Lib.hid hgx
   clear hgx
   by_cases hk0 : k = 0
   ·subst hk0
    rw [Nat.add_zero] at hck
    go_wp2
    go_roundw
    case rel =>
     refine ⟨0 + 1,by omega,by go_num,fun j => by rw [World.frozen?_setCell]; exact HF.out j,?_,hbw.setCell (Nat.le_refl _) _,by simp [World.setCell]; exact hsz⟩
     intro j hj
     by_cases hjk : j = 0
     ·subst hjk
      rw [World.cell?_setCell_same _ _ _ hold,if_pos (by omega),HGX.out]
     ·rw [World.cell?_setCell_other _ _ _ _ (by intro e; injection e; omega),HCL.out j hj,if_neg (by omega),if_neg (by omega)]
    case measure => simp [intOf]; omega
   ·go_wp2
    go_roundw
    case rel =>
     refine ⟨k + 1,by omega,by go_num,fun j => by rw [World.frozen?_setCell]; exact HF.out j,?_,hbw.setCell (Nat.le_refl _) _,by simp [World.setCell]; exact hsz⟩
     intro j hj
     by_cases hjk : j = k
     ·subst hjk
      rw [World.cell?_setCell_same _ _ _ hold,if_pos (by omega),HGX.out]
     ·rw [World.cell?_setCell_other _ _ _ _ (by intro e; injection e; omega),HCL.out j hj]
      by_cases hjk2 : j < k
      ·rw [if_pos hjk2,if_pos (by omega)]
      ·rw [if_neg hjk2,if_neg (by omega)]
    case measure => simp [intOf]; omega
  ·have hkl : k = l.length := by omega
   subst hkl
   go_wp2
   go_ret
   refine ⟨_,rfl,⟨by rw [List.length_map]; omega,?_,Or.inr ⟨w.heap.size,0,l.length,by rw [List.length_map]; rfl,hsz,?_⟩⟩,hbw⟩
   ·intro x hx
    obtain ⟨y,hy,rfl⟩ := List.mem_map.1 hx
    have := H64.out y hy
    rw [fopp_eq this]; split <;> omega
   ·intro i hi
    rw [List.length_map] at hi
    rw [Nat.zero_add,HCL.out i hi,if_pos hi]
    congr 2
    rw [List.getD_eq_getElem?_getD,List.getD_eq_getElem?_getD,List.getElem?_map,List.getElem?_eq_getElem hi]; rfl
structure SafeL (e : List Nat) : Prop where
 fins : ∀ x,x ∈ e → fin x
 all : allB e 2580562586483294208 6633802251116740608 = true
theorem fin_m450 : fin 2580562586483294208 := by unfold fin; omega
theorem fin_p450 : fin 6633802251116740608 := by unfold fin; omega
theorem safe_of_within {x : Nat} (hx : fin x) (h : withinB x 2580562586483294208 6633802251116740608 = true) : safe x := by
 unfold withinB at h
 rw [Bool.and_eq_true,fge_val (fin_abs hx) fin_m450,fle_val (fin_abs hx) fin_p450,fval_abs,fval_m450,fval_p450] at h
 have h1 := of_decide_eq_true h.1
 have h2 := of_decide_eq_true h.2
 obtain ⟨p,hp⟩ : ∃ p : Nat,p = 2 ^ (unitE - 450) := ⟨_,rfl⟩
 obtain ⟨q,hq⟩ : ∃ q : Nat,q = 2 ^ (unitE + 450) := ⟨_,rfl⟩
 have c1 : (p : Int) = (2 : Int) ^ (unitE - 450) := by rw [hp]; simp
 have c2 : (q : Int) = (2 : Int) ^ (unitE + 450) := by rw [hq]; simp
 rw [← c1] at h1
 rw [← c2] at h2
 refine ⟨hx,?_,?_⟩
 ·rw [← hp]; omega
 ·rw [← hq]; omega
theorem within_of_safe {x : Nat} (h : safe x) : withinB x 2580562586483294208 6633802251116740608 = true := by
 obtain ⟨hx,h1,h2⟩ := h
 unfold withinB
 rw [fge_val (fin_abs hx) fin_m450,fle_val (fin_abs hx) fin_p450,fval_abs,fval_m450,fval_p450]
 obtain ⟨p,hp⟩ : ∃ p : Nat,p = 2 ^ (unitE - 450) := ⟨_,rfl⟩
 obtain ⟨q,hq⟩ : ∃ q : Nat,q = 2 ^ (unitE + 450) := ⟨_,rfl⟩
 have c1 : (p : Int) = (2 : Int) ^ (unitE - 450) := by rw [hp]; simp
 have c2 : (q : Int) = (2 : Int) ^ (unitE + 450) := by rw [hq]; simp
 rw [← c1,← c2]
 rw [← hp] at h1
 rw [← hq] at h2
 have d1 : decide ((p : Int) ≤ ((fval x).natAbs : Int)) = true := by simp; omega
 have d2 : decide (((fval x).natAbs : Int) ≤ (q : Int)) = true := by simp; omega
 rw [d1,d2]; rfl
theorem SafeL.safe {e : List Nat} (h : SafeL e) : ∀ x,x ∈ e → safe x := by
 intro x hx
 have ha := h.all
 unfold allB at ha
 rw [Bool.and_eq_true,List.all_eq_true] at ha
 obtain ⟨j,hj,rfl⟩ := List.mem_iff_getElem.1 hx
 have := ha.2 j (by simpa using hj)
 unfold goodAt at this
 rw [Bool.and_eq_true] at this
 have h2 := this.1
 rw [List.getD_eq_getElem?_getD,List.getElem?_eq_getElem hj] at h2
 exact safe_of_within (h.fins _ hx) h2
theorem SafeL.len {e : List Nat} (h : SafeL e) : e.length ≤ 64 := by
 have ha := h.all
 unfold allB at ha
 rw [Bool.and_eq_true] at ha
 exact of_decide_eq_true ha.1
def sclSt (b : Nat) : List Nat → List Nat → List Nat
 | o,[] => o
 | o,x :: r => sclSt b (growW (prodHi x b) (growW (prodLo x b) o)) r
def scaleW (e : List Nat) (b : Nat) : List Nat := neatW (sclSt b [] e)
theorem sclSt_snoc (b : Nat) (l : List Nat) (x : Nat) : ∀ o,sclSt b o (l ++ [x]) = growW (prodHi x b) (growW (prodLo x b) (sclSt b o l)) := by
 induction l with
 | nil => intro o; rfl
 | cons y r ih => intro o; exact ih _
def capS : Nat := unitE + 940
theorem capS_le : 2 ^ capS * 2 ^ 40 ≤ 2 ^ capE := by
 rw [← Nat.pow_add]; exact Nat.pow_le_pow_right (by decide) (by decide)
theorem prod_abs {a b : Nat} (ha : safe a) (hb : safe b) : (fval (prodHi a b)).natAbs + (fval (prodLo a b)).natAbs ≤ 2 ^ capS := by
 have hf := prod_facts ha hb
 have v1 := hf.v1
 have v2 := hf.v2
 have hab : (fval a * fval b).natAbs ≤ 2 ^ (unitE + 450) * 2 ^ (unitE + 450) := mul_natAbs_le ha.2.2 hb.2.2
 have hr := rest_small (fval a * fval b)
 have a1 := congrArg Int.natAbs v1
 have a2 := congrArg Int.natAbs v2
 rw [Int.natAbs_mul,natAbs_two_pow] at a1 a2
 have h3 : ((fval (prodHi a b)).natAbs + (fval (prodLo a b)).natAbs) * 2 ^ unitE ≤ 3 * (2 ^ (unitE + 450) * 2 ^ (unitE + 450)) := by
  rw [Nat.add_mul,a1,a2]
  obtain ⟨T,hT⟩ : ∃ T : Nat,T = 2 ^ (unitE + 450) * 2 ^ (unitE + 450) := ⟨_,rfl⟩
  rw [← hT] at hab ⊢
  clear a1 a2 v1 v2 hT
  generalize fval a * fval b = P at *
  omega
 have h4 : 3 * (2 ^ (unitE + 450) * 2 ^ (unitE + 450)) ≤ 2 ^ capS * 2 ^ unitE := by
  have e1 : 3 * (2 ^ (unitE + 450) * 2 ^ (unitE + 450)) ≤ 2 ^ 2 * (2 ^ (unitE + 450) * 2 ^ (unitE + 450)) := Nat.mul_le_mul_right _ (by decide)
  refine Nat.le_trans e1 ?_
  rw [← Nat.pow_add,← Nat.pow_add,← Nat.pow_add]
  exact Nat.pow_le_pow_right (by decide) (by decide)
 exact Nat.le_of_mul_le_mul_right (Nat.le_trans h3 h4) (two_pow_pos _)
theorem scl_facts {b : Nat} (hb : safe b) (e : List Nat) : (∀ x,x ∈ e → safe x) → ∀ (o : List Nat) (n : Nat) (S : Int) (A : Nat),GFacts o n S A → n + 2 * e.length ≤ 200 → A + e.length * 2 ^ capS ≤ 100 * 2 ^ capS →
  (∃ S', GFacts (sclSt b o e) (n + 2 * e.length) S' (A + e.length * 2 ^ capS) ∧ S' * 2 ^ unitE = S * 2 ^ unitE + isum (e.map fval) * fval b) ∧
  (∀ k,k < e.length → runOK (prodLo (e.getD k 0) b) (sclSt b o (e.take k)) ∧ runOK (prodHi (e.getD k 0) b) (growW (prodLo (e.getD k 0) b) (sclSt b o (e.take k)))) ∧
  (∀ m : Nat,(∀ x,x ∈ o → (2 : Int) ^ m ∣ fval x) → (∀ x,x ∈ e → (2 : Int) ^ (m + unitE) ∣ fval x * fval b) → ∀ y,y ∈ sclSt b o e → (2 : Int) ^ m ∣ fval y) := by
 induction e with
 | nil => intro _ o n S A h _ _; exact ⟨⟨S,by simpa [sclSt] using h,by simp [isum]⟩,fun k hk => by simp at hk,fun m h _ => h⟩
 | cons x r ih =>
  intro he o n S A h hn hA
  have hx := he x (List.mem_cons_self ..)
  have hf := prod_facts hx hb
  have hpa := prod_abs hx hb
  simp only [List.length_cons] at hn hA
  have hA' : A + (r.length + 1) * 2 ^ capS = A + r.length * 2 ^ capS + 2 ^ capS := by rw [Nat.add_mul,Nat.one_mul]; omega
  rw [hA'] at hA
  have hbig : 100 * 2 ^ capS ≤ 2 ^ capE * 256 := by have := capS_le; generalize 2 ^ capS = P at *; omega
  obtain ⟨r1,g1⟩ := grow_step h hf.p9 (by omega) (by generalize 2 ^ capE = Q at *; generalize 2 ^ capS = P at *; generalize (fval (prodHi x b)).natAbs = H at *; generalize (fval (prodLo x b)).natAbs = L at *; generalize r.length * P = R at *; omega)
  obtain ⟨r2,g2⟩ := grow_step g1 hf.p1 (by omega) (by
   show _ + (fval (prodHi x b)).natAbs ≤ _
   generalize 2 ^ capE = Q at *; generalize 2 ^ capS = P at *; generalize (fval (prodHi x b)).natAbs = H at *; generalize (fval (prodLo x b)).natAbs = L at *; generalize r.length * P = R at *; omega)
  have g3 : GFacts (growW (prodHi x b) (growW (prodLo x b) o)) (n + 2) (S + fval (prodLo x b) + fval (prodHi x b)) (A + 2 ^ capS) := by
   refine ⟨g2.fins,g2.novs,g2.len,g2.sum,Nat.le_trans g2.abs ?_⟩
   refine Nat.mul_le_mul_left _ ?_
   show A + (fval (prodLo x b)).natAbs + (fval (prodHi x b)).natAbs ≤ _
   omega
  obtain ⟨⟨S', i1,i2⟩,i3,i4⟩ := ih (fun y hy => he y (List.mem_cons_of_mem _ hy)) _ _ _ _ g3 (by omega) (by generalize 2 ^ capS = P at *; generalize r.length * P = R at *; omega)
  refine ⟨⟨S', ?_,?_⟩,?_,?_⟩
  ·have e1 : n + 2 * (x :: r).length = n + 2 + 2 * r.length := by simp only [List.length_cons]; omega
   have e2 : A + (x :: r).length * 2 ^ capS = A + 2 ^ capS + r.length * 2 ^ capS := by simp only [List.length_cons]; rw [hA']; omega
   rw [e1,e2]
   exact i1
  ·rw [i2]
   have v1 := hf.v1
   have v2 := hf.v2
   simp only [List.map_cons,isum]
   rw [Int.add_mul,Int.add_mul,v1,v2,Int.add_mul]
   omega
  ·intro k hk
   cases k with
   | zero => exact ⟨r1,r2⟩
   | succ k =>
    have := i3 k (by simp only [List.length_cons] at hk; omega)
    exact this
  ·intro m ho hxb
   refine i4 m ?_ (fun y hy => hxb y (List.mem_cons_of_mem _ hy))
   have hd := hxb x (List.mem_cons_self ..)
   have dv : ∀ z y : Int,y * 2 ^ unitE = z → (2 : Int) ^ (m + unitE) ∣ z → (2 : Int) ^ m ∣ y := by
    intro z y h1 h2
    obtain ⟨c,hc⟩ := h2
    refine ⟨c,?_⟩
    rw [← h1,Int.pow_add] at hc
    apply Int.eq_of_mul_eq_mul_right (Int.ne_of_gt (Int.pow_pos (by omega) : (0 : Int) < 2 ^ unitE))
    rw [hc]; grind
   have d1 : (2 : Int) ^ m ∣ fval (prodHi x b) := dv _ _ hf.v1 (rn_dvd hd)
   have d2 : (2 : Int) ^ m ∣ fval (prodLo x b) := dv _ _ hf.v2 (Int.dvd_sub hd (rn_dvd hd))
   exact growW_dvd r2 m d1 (growW_dvd r1 m d2 ho)
theorem GFacts.nil : GFacts [] 0 0 0 := by
 refine ⟨?_,trivial,by simp,rfl,by simp [absSum]⟩
 intro x hx; cases hx
theorem scale_facts {e : List Nat} {b : Nat} (he : SafeL e) (hb : safe b) :
  runN (sclSt b [] e) ∧ (∃ S,ExpFacts (scaleW e b) S ∧ S * 2 ^ unitE = isum (e.map fval) * fval b) ∧
  (sclSt b [] e).length ≤ 1000 ∧ (∀ x,x ∈ sclSt b [] e → fin x) ∧
  (∀ k,k < e.length → runOK (prodLo (e.getD k 0) b) (sclSt b [] (e.take k)) ∧ runOK (prodHi (e.getD k 0) b) (growW (prodLo (e.getD k 0) b) (sclSt b [] (e.take k)))) ∧
  (∀ m : Nat,(∀ x,x ∈ e → (2 : Int) ^ (m + unitE) ∣ fval x * fval b) → ∀ y,y ∈ scaleW e b → (2 : Int) ^ m ∣ fval y) ∧
  absSum ((scaleW e b).map fval) ≤ 2 ^ capS * 1024 := by
 have hlen := he.len
 have hmul : e.length * 2 ^ capS ≤ 64 * 2 ^ capS := Nat.mul_le_mul_right _ hlen
 obtain ⟨⟨S,g,gs⟩,h2,h3⟩ := scl_facts hb e he.safe [] 0 0 0 GFacts.nil (by omega) (by generalize 2 ^ capS = P at *; generalize e.length * P = R at *; omega)
 have hw : absSum ((sclSt b [] e).map fval) ≤ 2 * (64 * 2 ^ capS) := by
  have h1 := g.abs
  have h4 : (2 ^ 40 + 2 * (0 + 2 * e.length)) * (0 + e.length * 2 ^ capS) ≤ 2 ^ 41 * (64 * 2 ^ capS) := Nat.mul_le_mul (by omega) (by omega)
  generalize 64 * 2 ^ capS = T at *
  omega
 have hb2 : absSum ((sclSt b [] e).map fval) ≤ 2 ^ capE * 256 := by
  have := capS_le
  generalize 2 ^ capS = P at *; omega
 have hr : runN (sclSt b [] e) := runN_of capE capE_ok _ g.fins g.novs (by have := g.len; omega) (Nat.le_trans hb2 (Nat.mul_le_mul_left _ (by decide)))
 have nf := neat_facts hr g.novs (by have := g.len; omega) (Nat.le_trans hb2 capE_big)
 refine ⟨hr,⟨S,⟨nf.fins,nf.nz,nf.novs,by unfold scaleW; rw [nf.sum,g.sum],by have := nf.abs; rw [g.sum] at this; exact this,nf.all⟩,by rw [gs]; simp⟩,by have := g.len; omega,g.fins,h2,?_,?_⟩
 ·intro m hm
  exact nf.dvd m (h3 m (fun x hx => by cases hx) hm)
 ·have n5 := nf.abs
  have n6 := isum_le ((sclSt b [] e).map fval)
  unfold scaleW
  generalize 2 ^ capS = P at *
  omega
theorem scale_walk (e : List Nat) (v : Value) (b : Nat) (he : SafeL e) (hb : safe b) (w : World) (hv : FSl w v e) :
  Calls Tryz.prog 158 #[v,.float .f64 b] w fun r w' => ∃ v', r = .returned (.tuple #[v', .bool true]) ∧ FSl w' v' (scaleW e b) ∧ Below w.heap.size w w' := by
 have HSA := Lib.hid (safe_all_walk e v he.fins w hv)
 rw [he.all] at HSA
 have HW : Hid (∀ w,Calls Tryz.prog 154 #[.float .f64 b,.float .f64 2580562586483294208,.float .f64 6633802251116740608] w fun r w' => r = .returned (.bool true) ∧ w = w') := fun w => by
  have := within_any b 2580562586483294208 6633802251116740608 hb.1.1 w
  rw [within_of_safe hb] at this; exact this
 have hb0 : fval b ≠ 0 := by
  intro h
  have h2 := hb.2.1
  rw [h] at h2
  have := two_pow_pos (unitE - 450)
  simp at h2
 have hbn : fne b 0 = true := by rw [fne_zero hb.1]; simpa using hb0
 have hbe : feq b 0 = false := by rw [feq_zero hb.1]; simpa using hb0
 obtain ⟨f1,⟨S,f2,_⟩,f3,f4,f5,_,_⟩ := scale_facts he hb
 have HPR := Lib.hid (fun x hx => prod_walk x b (he.safe x hx) hb)
 have HR := Lib.hid f5
 have hel := he.len
 obtain ⟨ad,cap,rfl,hcell⟩ := hv.form
 have HC := Lib.hid hcell
 have HN : Hid (∀ w v,FSl w v (sclSt b [] e) → Calls Tryz.prog 198 #[v] w fun r w' => ∃ v', r = .returned v' ∧ OwnF w' w.heap.size v' (scaleW e b) ∧ Below w.heap.size w w') :=
  fun w v hv => neat_walk (sclSt b [] e) v f1 (by omega) w hv
 have HF := Lib.hid f2
 have HL := Lib.hid f3
 have H64 : Hid (∀ x,x ∈ sclSt b [] e → x < 2 ^ 64) := fun x hx => (f4 x hx).1
 have hl64 : (scaleW e b).length ≤ 64 := by
  have := f2.all
  unfold allB at this
  rw [Bool.and_eq_true] at this
  exact of_decide_eq_true this.1
 have HPL := Lib.hid hl64
 clear he hb hv hcell f1 f2 f3 f4 f5 hl64 hb0
 go_enter Tryz.func158,Tryz.ntmps158
 go_wp2_with (first | (go_at_call 157; refine (HSA.out).mono ?_; rintro r w' ⟨rfl,rfl⟩) | (go_at_call 154; refine (HW.out _).mono ?_; rintro r w' ⟨rfl,rfl⟩))
 go_loopw [6,29] (fun out i wr => ∃ n : Nat,n ≤ e.length ∧ i = .int .i64 n ∧ Hid ((sclSt b [] (e.take n)).length ≤ 2 * n) ∧ Hid (FSl wr out (sclSt b [] (e.take n))) ∧ Below w.heap.size w wr) (fun _ i _ => e.length - (intOf i).toNat)
 case atStart => exact ⟨0,Nat.zero_le _,rfl,by simp [Hid,sclSt],⟨by simp [sclSt],by simp [sclSt],Or.inl ⟨rfl,rfl⟩⟩,Below.refl _ _⟩
 case round =>
  obtain ⟨n,hn,rfl,HLn,HO,hbw⟩ := hrel
  by_cases hlt : n < e.length
  ·obtain ⟨bb,off,rfl,hbb,hc⟩ := HC.out (by omega)
   have hck : wr.cell? ⟨bb,off + n,none⟩ = some (.float .f64 (e.getD n 0)) := (hbw.cell (p := ⟨bb,off + n,none⟩) hbb).trans (hc n hlt)
   have HP := Lib.hid (HPR.out (e.getD n 0) (getD_mem hlt))
   obtain ⟨r1,r2⟩ := HR.out n hlt
   have hsn := sclSt_snoc b (e.take n) (e.getD n 0) []
   rw [← take_snoc' e n hlt] at hsn
   have hl1 := HLn.out
   have hgl1 := growW_len (prodLo (e.getD n 0) b) (sclSt b [] (e.take n))
   have hgl2 := growW_len (prodHi (e.getD n 0) b) (growW (prodLo (e.getD n 0) b) (sclSt b [] (e.take n)))
   have HGL : Hid ((sclSt b [] (e.take (n + 1))).length ≤ 2 * (n + 1)) := by rw [hsn]; unfold Hid; omega
   have HS := Lib.hid hsn
   have G1 := Lib.hid (fun w v => grow_walk (sclSt b [] (e.take n)) v (prodLo (e.getD n 0) b) r1 (by omega) w)
   have G2 := Lib.hid (fun w v => grow_walk (growW (prodLo (e.getD n 0) b) (sclSt b [] (e.take n))) v (prodHi (e.getD n 0) b) r2 (by omega) w)
   have F1 : Hid (∀ x,x ∈ growW (prodLo (e.getD n 0) b) (sclSt b [] (e.take n)) → x < 2 ^ 64) := fun x hx => ((growW_vals r1).2 x hx).1
   have F2 : Hid (∀ x,x ∈ growW (prodHi (e.getD n 0) b) (growW (prodLo (e.getD n 0) b) (sclSt b [] (e.take n))) → x < 2 ^ 64) := fun x hx => ((growW_vals r2).2 x hx).1
   have L1 : Hid ((growW (prodLo (e.getD n 0) b) (sclSt b [] (e.take n))).length ≤ 4294967296) := by unfold Hid; omega
   have L2 : Hid ((growW (prodHi (e.getD n 0) b) (growW (prodLo (e.getD n 0) b) (sclSt b [] (e.take n)))).length ≤ 4294967296) := by unfold Hid; omega
   clear hc r1 r2 hsn hl1 hgl1 hgl2 HR HN H64 HL
   generalize prodLo (e.getD n 0) b = lo at *
   generalize prodHi (e.getD n 0) b = hi at *
   generalize e.getD n 0 = x at *
   generalize sclSt b [] (e.take n) = o at *
   generalize hO1 : growW lo o = o1 at *
   clear hO1
   generalize hO2 : growW hi o1 = o2 at *
   clear hO2
   go_wp2_with (first
    |(go_at_call 199; refine (HP.out _).mono ?_; rintro r w1 ⟨rfl,hb1⟩; have ho1 := HO.out.below hb1)
    |(go_at_call 196; (first
     |(with_reducible refine (G1.out _ _ ho1).mono ?_; rintro r w2 ⟨v2,rfl,hown2,hb2⟩; have ho2 := FSl_of_own hown2 L1.out F1.out)
     |(with_reducible refine (G2.out _ _ ho2).mono ?_; rintro r w3 ⟨v3,rfl,hown3,hb3⟩; have ho3 := FSl_of_own hown3 L2.out F2.out))))
   have s1 := hb1.size
   have s2 := hb2.size
   have s3 := hb3.size
   have s0 := hbw.size
   go_roundw
   case rel => exact ⟨n + 1,by omega,by go_num,HGL,by rw [HS.out]; exact ho3,((hbw.trans (hb1.mono s0)).trans (hb2.mono (by omega))).trans (hb3.mono (by omega))⟩
   case measure => simp [intOf]; omega
  ·have hnl : n = e.length := by omega
   subst hnl
   have HO2 : Hid (FSl wr u6 (sclSt b [] e)) := by have := HO.out; rw [List.take_of_length_le (Nat.le_refl _)] at this; exact this
   clear HO HLn HR
   go_wp2_with (first
    |(go_at_call 198; refine (HN.out _ _ HO2.out).mono ?_; rintro r w1 ⟨v1,rfl,hown1,hb1⟩; have hfs := FSl_of_own hown1 (by have := HPL.out; omega) (fun x hx => (HF.out.fins x hx).1))
    |(go_at_call 197; refine (apart_walk (scaleW e b) _ HF.out.fins HF.out.all _ hfs).mono ?_; rintro r w2 ⟨rfl,rfl⟩))
   go_ret2
   exact ⟨_,rfl,hfs,hbw.trans (hb1.mono hbw.size)⟩
def mulSt (e : List Nat) : List Nat → List Nat → List Nat
 | o,[] => o
 | o,y :: r => mulSt e (plusW o (scaleW e y)) r
def mulW (e f : List Nat) : List Nat := mulSt e [] f
theorem mulSt_snoc (e : List Nat) (l : List Nat) (x : Nat) : ∀ o,mulSt e o (l ++ [x]) = plusW (mulSt e o l) (scaleW e x) := by
 induction l with
 | nil => intro o; rfl
 | cons y r ih => intro o; exact ih _
theorem allB_len {l : List Nat} {a b : Nat} (h : allB l a b = true) : l.length ≤ 64 := by
 unfold allB at h
 rw [Bool.and_eq_true] at h
 exact of_decide_eq_true h.1
theorem exp_nil : ExpFacts [] 0 := by
 refine ⟨?_,?_,trivial,rfl,by simp [absSum],all_true (by simp) (by simp)⟩
 ·intro x hx; cases hx
 ·intro x hx; cases hx
theorem absSum_safe {e : List Nat} (h : ∀ x,x ∈ e → safe x) : absSum (e.map fval) ≤ e.length * 2 ^ (unitE + 450) := by
 induction e with
 | nil => simp [absSum]
 | cons x r ih =>
  have := ih (fun y hy => h y (List.mem_cons_of_mem _ hy))
  have hx := (h x (List.mem_cons_self ..)).2.2
  simp only [List.map_cons,absSum,List.length_cons]
  rw [Nat.add_mul,Nat.one_mul]; exact Nat.le_trans (Nat.add_le_add hx this) (by rw [Nat.add_comm]; exact Nat.le_refl _)
theorem mul_bound {S p q : Int} {a b : Nat} (h : S * 2 ^ unitE = p * q) (hp : p.natAbs ≤ a * 2 ^ (unitE + 450)) (hq : q.natAbs ≤ b * 2 ^ (unitE + 450)) (ha : a ≤ 64) (hb : b ≤ 64) : S.natAbs ≤ 2 ^ capS := by
 have h1 := congrArg Int.natAbs h
 rw [Int.natAbs_mul,natAbs_two_pow] at h1
 have h2 : (p * q).natAbs ≤ (2 ^ 6 * 2 ^ (unitE + 450)) * (2 ^ 6 * 2 ^ (unitE + 450)) :=
  mul_natAbs_le (Nat.le_trans hp (Nat.mul_le_mul_right _ ha)) (Nat.le_trans hq (Nat.mul_le_mul_right _ hb))
 have h3 : (2 ^ 6 * 2 ^ (unitE + 450)) * (2 ^ 6 * 2 ^ (unitE + 450)) ≤ 2 ^ capS * 2 ^ unitE := by
  rw [← Nat.pow_add,← Nat.pow_add,← Nat.pow_add]
  exact Nat.pow_le_pow_right (by decide) (by decide)
 refine Nat.le_of_mul_le_mul_right ?_ (two_pow_pos unitE)
 rw [h1]
 exact Nat.le_trans h2 h3
theorem cap_sum {a b : Nat} (ha : a ≤ 8 * 2 ^ capS) (hb : b ≤ 2 ^ capS * 1024) : a + b ≤ 2 ^ capE * 128 := by
 have := capS_le
 generalize 2 ^ capE = Q at *
 generalize 2 ^ capS = P at *
 omega
theorem mul_steps {e : List Nat} (he : SafeL e) (f : List Nat) (hf : ∀ x,x ∈ f → safe x) (hfl : f.length ≤ 64) (n : Nat) (hn : n ≤ f.length) :
  ∃ S,ExpFacts (mulSt e [] (f.take n)) S ∧ S * 2 ^ unitE = isum (e.map fval) * isum ((f.take n).map fval) ∧
   (∀ m : Nat,(∀ x,x ∈ e → ∀ y,y ∈ f → (2 : Int) ^ (m + unitE) ∣ fval x * fval y) → ∀ z,z ∈ mulSt e [] (f.take n) → (2 : Int) ^ m ∣ fval z) ∧
   (∀ T,ExpFacts (mulSt e [] (f.take n)) T → absSum ((mulSt e [] (f.take n)).map fval) ≤ 8 * 2 ^ capS) := by
 have hea := absSum_safe he.safe
 have hel := he.len
 have hes := isum_le (e.map fval)
 have bound : ∀ n S,n ≤ f.length → S * 2 ^ unitE = isum (e.map fval) * isum ((f.take n).map fval) → S.natAbs ≤ 2 ^ capS := by
  intro n S hn h
  have hft : ∀ x,x ∈ f.take n → safe x := fun x hx => hf x (List.mem_of_mem_take hx)
  have h2 := absSum_safe hft
  have h3 := isum_le ((f.take n).map fval)
  exact mul_bound h (Nat.le_trans hes hea) (Nat.le_trans h3 h2) hel (by rw [List.length_take]; omega)
 induction n with
 | zero =>
  refine ⟨0,by simpa [mulSt] using exp_nil,by simp [isum],?_,fun T _ => by simp [mulSt,absSum]⟩
  intro m _ z hz; simp [mulSt] at hz
 | succ n ih =>
  obtain ⟨S,g1,g2,g3,g4⟩ := ih (by omega)
  have hlt : n < f.length := by omega
  have hy := hf _ (getD_mem hlt)
  obtain ⟨_,⟨S2,s1,s2⟩,_,_,_,s3,s4⟩ := scale_facts he hy
  have hS := bound n S (by omega) g2
  have ga := g1.abs
  have hpf := plus_facts (e := mulSt e [] (f.take n)) (f := scaleW e (f.getD n 0)) g1.fins s1.fins (by have := allB_len g1.all; have := allB_len s1.all; omega) (cap_sum (Nat.le_trans ga (Nat.mul_le_mul_left _ hS)) s4)
  have hsn := mulSt_snoc e (f.take n) (f.getD n 0) []
  rw [← take_snoc' f n hlt] at hsn
  have hts := (take_sum f n hlt).1
  rw [hsn]
  have hnew := hpf.2.1
  rw [g1.sum,s1.sum] at hnew
  have hq : (S + S2) * 2 ^ unitE = isum (e.map fval) * isum ((f.take (n + 1)).map fval) := by
   rw [hts,Int.add_mul,g2,s2,Int.mul_add]
  refine ⟨S + S2,hnew,hq,?_,?_⟩
  ·intro m hm
   exact hpf.2.2 m (g3 m hm) (s3 m (fun x hx => hm x hx _ (getD_mem hlt)))
  ·intro T hT
   have hb := bound (n + 1) (S + S2) hn hq
   exact Nat.le_trans hnew.abs (Nat.mul_le_mul_left _ hb)
theorem mul_facts {e f : List Nat} (he : SafeL e) (hf : SafeL f) : ∃ S,ExpFacts (mulW e f) S ∧ S * 2 ^ unitE = isum (e.map fval) * isum (f.map fval) ∧ S.natAbs ≤ 2 ^ capS ∧
  (∀ m : Nat,(∀ x,x ∈ e → ∀ y,y ∈ f → (2 : Int) ^ (m + unitE) ∣ fval x * fval y) → ∀ z,z ∈ mulW e f → (2 : Int) ^ m ∣ fval z) := by
 obtain ⟨S,h1,h2,h3,_⟩ := mul_steps he f hf.safe hf.len f.length (Nat.le_refl _)
 rw [List.take_of_length_le (Nat.le_refl _)] at h1 h2 h3
 refine ⟨S,h1,h2,?_,h3⟩
 exact mul_bound h2 (Nat.le_trans (isum_le _) (absSum_safe he.safe)) (Nat.le_trans (isum_le _) (absSum_safe hf.safe)) he.len hf.len
theorem mul_walk (e f : List Nat) (ve vf : Value) (he : SafeL e) (hf : SafeL f) (w : World) (hve : FSl w ve e) (hvf : FSl w vf f) :
  Calls Tryz.prog 117 #[ve,vf] w fun r w' => ∃ v', r = .returned (.tuple #[v', .bool true]) ∧ FSl w' v' (mulW e f) ∧ Below w.heap.size w w' := by
 have HSe := Lib.hid (safe_all_walk e ve he.fins w hve)
 have HSf := Lib.hid (safe_all_walk f vf hf.fins w hvf)
 rw [he.all] at HSe
 rw [hf.all] at HSf
 have HST := Lib.hid (fun n hn => mul_steps he f hf.safe hf.len n hn)
 have HSC := Lib.hid (fun y hy => scale_walk e ve y he (hf.safe y hy))
 have HSF := Lib.hid (fun y hy => scale_facts he (hf.safe y hy))
 have hfl := hf.len
 have HVE := Lib.hid hve
 obtain ⟨ad,cap,rfl,hcell⟩ := hvf.form
 have HC := Lib.hid hcell
 clear hve hvf hcell he hf
 go_enter Tryz.func117,Tryz.ntmps117
 go_wp2_with (go_at_call 157; (first | (with_reducible refine (HSe.out).mono ?_) | (with_reducible refine (HSf.out).mono ?_)); rintro r w' ⟨rfl,rfl⟩)
 go_loopw [6,21] (fun out i wr => ∃ n : Nat,n ≤ f.length ∧ i = .int .i64 n ∧ Hid (FSl wr out (mulSt e [] (f.take n))) ∧ Below w.heap.size w wr) (fun _ i _ => f.length - (intOf i).toNat)
 case atStart => exact ⟨0,Nat.zero_le _,rfl,⟨by simp [mulSt],by simp [mulSt],Or.inl ⟨rfl,rfl⟩⟩,Below.refl _ _⟩
 case round =>
  obtain ⟨n,hn,rfl,HO,hbw⟩ := hrel
  by_cases hlt : n < f.length
  ·obtain ⟨bb,off,rfl,hbb,hc⟩ := HC.out (by omega)
   have hck : wr.cell? ⟨bb,off + n,none⟩ = some (.float .f64 (f.getD n 0)) := (hbw.cell (p := ⟨bb,off + n,none⟩) hbb).trans (hc n hlt)
   obtain ⟨S,g1,g2,_,g4⟩ := HST.out n hn
   obtain ⟨_,⟨S2,s1,_⟩,_,_,_,_,s4⟩ := HSF.out (f.getD n 0) (getD_mem hlt)
   have ga := g4 S g1
   have hA : absSum ((mulSt e [] (f.take n)).map fval) + absSum ((scaleW e (f.getD n 0)).map fval) ≤ 2 ^ capE * 128 := cap_sum ga s4
   have hsn := mulSt_snoc e (f.take n) (f.getD n 0) []
   rw [← take_snoc' f n hlt] at hsn
   have HS := Lib.hid hsn
   have HSC1 := Lib.hid (HSC.out (f.getD n 0) (getD_mem hlt))
   have HPL := Lib.hid (fun w va vb => plus_walk (mulSt e [] (f.take n)) (scaleW e (f.getD n 0)) va vb g1.fins s1.fins (by have := allB_len g1.all; have := allB_len s1.all; omega) hA w)
   clear hc g1 g2 g4 s1 s4 ga hA hsn HST HSF HSC
   generalize mulSt e [] (f.take n) = o at *
   generalize scaleW e (f.getD n 0) = sc at *
   generalize f.getD n 0 = y at *
   go_wp2_with (first
    |(go_at_call 158; refine (HSC1.out _ (HVE.out.below hbw)).mono ?_; rintro r w1 ⟨v1,rfl,hf1,hb1⟩; have ho1 := HO.out.below hb1)
    |(go_at_call 156; refine (HPL.out _ _ _ ho1 hf1).mono ?_; rintro r w2 ⟨v2,rfl,hf2,hb2⟩))
   have s1 := hb1.size
   have s0 := hbw.size
   go_roundw
   case rel => exact ⟨n + 1,by omega,by go_num,by rw [HS.out]; exact hf2,(hbw.trans (hb1.mono s0)).trans (hb2.mono (by omega))⟩
   case measure => simp [intOf]; omega
  ·have hnl : n = f.length := by omega
   subst hnl
   have HO2 : Hid (FSl wr u6 (mulW e f)) := by have := HO.out; rw [List.take_of_length_le (Nat.le_refl _)] at this; exact this
   clear HO HST HSC HSF
   go_wp2
   go_ret2
   exact ⟨_,rfl,HO2,hbw⟩
theorem isum_neg (l : List Nat) (h : ∀ x,x ∈ l → fin x) : isum ((l.map fopp).map fval) = -isum (l.map fval) ∧ absSum ((l.map fopp).map fval) = absSum (l.map fval) := by
 induction l with
 | nil => exact ⟨rfl,rfl⟩
 | cons x r ih =>
  obtain ⟨h1,h2⟩ := ih (fun y hy => h y (List.mem_cons_of_mem _ hy))
  have hx := fopp_val (h x (List.mem_cons_self ..)).1
  simp only [List.map_cons,isum,absSum,h1,h2,hx]
  exact ⟨by omega,by omega⟩
theorem check_true {l : List Nat} {S : Int} (h : ExpFacts l S) (hS : S.natAbs ≤ 2 ^ capS * 16) : allB l 1 9065746049896808448 = true := by
 have hc : fin 9065746049896808448 := by unfold fin; omega
 have hv : fval 9065746049896808448 = 2 ^ (unitE + 990) := fval_pow (F := 2013) (by unfold fin; omega) (by omega) (by omega) (by omega) (by omega) rfl
 refine all_true (allB_len h.all) (good_of_nov l h.fins 0 h.novs _ _ ?_)
 intro x hx
 have hf := h.fins x hx
 unfold withinB
 rw [fge_val (fin_abs hf) fin_tiny,fval_abs,fval_tiny,fle_val (fin_abs hf) hc,fval_abs,hv]
 have h1 := absSum_mem (List.mem_map_of_mem (f := fval) hx)
 have h2 := h.abs
 have h0 := h.nz x hx
 have h3 : 2 ^ capS * 128 ≤ 2 ^ (unitE + 990) := by
  rw [show (128 : Nat) = 2 ^ 7 from rfl,← Nat.pow_add]
  exact Nat.pow_le_pow_right (by decide) (by decide)
 obtain ⟨q,hq⟩ : ∃ q : Nat,q = 2 ^ (unitE + 990) := ⟨_,rfl⟩
 have c2 : (q : Int) = (2 : Int) ^ (unitE + 990) := by rw [hq]; simp
 rw [← c2]
 rw [← hq] at h3
 clear c2 hq hv
 have d1 : decide ((1 : Int) ≤ ((fval x).natAbs : Int)) = true := by simp; omega
 have d2 : decide (((fval x).natAbs : Int) ≤ (q : Int)) = true := by simp; omega
 rw [d1,d2]; rfl
theorem sgnI_mul {z : Int} {k : Nat} : sgnI (z * 2 ^ k) = sgnI z := by
 have hp : (0 : Int) < 2 ^ k := Int.pow_pos (by omega)
 unfold sgnI
 by_cases h1 : z < 0
 ·rw [if_pos h1,if_pos (Int.mul_neg_of_neg_of_pos h1 hp)]
 ·rw [if_neg h1,if_neg (by have := Int.mul_nonneg (show 0 ≤ z by omega) (Int.le_of_lt hp); omega)]
  by_cases h2 : 0 < z
  ·rw [if_pos h2,if_pos (Int.mul_pos h2 hp)]
  ·have : z = 0 := by omega
   subst this; simp
theorem cmp_walk (e f : List Nat) (ve vf : Value) (S T : Int) (he : ExpFacts e S) (hf : ExpFacts f T) (hS : S.natAbs ≤ 2 ^ capS) (hT : T.natAbs ≤ 2 ^ capS) (w : World) (hve : FSl w ve e) (hvf : FSl w vf f) :
  Calls Tryz.prog 135 #[ve,vf] w fun r w' => r = .returned (.int .i64 (sgnI (S - T))) ∧ Below w.heap.size w w' := by
 have hS2 : S.natAbs ≤ 2 ^ capS * 16 := by generalize 2 ^ capS = P at *; omega
 have hT2 : T.natAbs ≤ 2 ^ capS * 16 := by generalize 2 ^ capS = P at *; omega
 have HCe := Lib.hid (check_walk e ve he.fins w hve)
 have HCf := Lib.hid (check_walk f vf hf.fins w hvf)
 rw [check_true he hS2] at HCe
 rw [check_true hf hT2] at HCf
 have hle := allB_len he.all
 have hlf := allB_len hf.all
 have HN := Lib.hid (neg_walk f vf w (by omega) hvf)
 have hfn : ∀ x,x ∈ f.map fopp → fin x := fun x hx => by
  obtain ⟨y,hy,rfl⟩ := List.mem_map.1 hx; exact fopp_fin (hf.fins y hy)
 obtain ⟨n1,n2⟩ := isum_neg f hf.fins
 have hA : absSum (e.map fval) + absSum ((f.map fopp).map fval) ≤ 2 ^ capE * 128 := by
  rw [n2]
  refine cap_sum (Nat.le_trans he.abs (Nat.mul_le_mul_left _ hS)) (Nat.le_trans hf.abs ?_)
  generalize 2 ^ capS = P at *; omega
 have hpl : e.length + (f.map fopp).length ≤ 1000 := by rw [List.length_map]; omega
 obtain ⟨_,hp,_⟩ := plus_facts he.fins hfn hpl hA
 rw [n1,he.sum,hf.sum] at hp
 have HPL := Lib.hid (fun w va vb => plus_walk e (f.map fopp) va vb he.fins hfn hpl hA w)
 have hchk := check_true hp (by generalize 2 ^ capS = P at *; omega)
 have HSG : Hid (∀ w v,FSl w v (plusW e (f.map fopp)) → Calls Tryz.prog 121 #[v] w fun r w' => r = .returned (.int .i64 (sgnI (S - T))) ∧ w = w') := fun w v hv => by
  have := sign_walk (plusW e (f.map fopp)) v hp.fins hp.novs hchk w hv
  rw [hp.sum,show S + -T = S - T by omega] at this
  exact this
 have HVE := Lib.hid hve
 clear he hf hS hT hS2 hT2 hvf hfn n1 n2 hA hpl hp hchk hle hlf hve
 generalize sgnI (S - T) = R at *
 go_enter Tryz.func135,Tryz.ntmps135
 go_wp2_with (first
  |(go_at_call 159; (first | (with_reducible refine (HCe.out).mono ?_) | (with_reducible refine (HCf.out).mono ?_)); rintro r w' ⟨rfl,rfl⟩)
  |(go_at_call 119; refine (HN.out).mono ?_; rintro r w1 ⟨v1,rfl,hf1,hb1⟩; have he1 := HVE.out.below hb1)
  |(go_at_call 156; refine (HPL.out _ _ _ he1 hf1).mono ?_; rintro r w2 ⟨v2,rfl,hf2,hb2⟩)
  |(go_at_call 121; refine (HSG.out _ _ hf2).mono ?_; rintro r w3 ⟨rfl,rfl⟩))
 go_ret
 exact ⟨rfl,hb1.trans (hb2.mono hb1.size)⟩
def lessW (x y : Nat) : List Nat := keepF (sumLo x (fopp y)) ++ keepF (sumHi x (fopp y))
def lessPre (lo hi : Nat) : Nat → List Nat
 | 0 => []
 | 1 => keepF lo
 | _ => keepF lo ++ keepF hi
theorem keepF_len (x : Nat) : (keepF x).length ≤ 1 := by unfold keepF; split <;> simp
theorem less_walk (x y : Nat) (hx : tame x) (hy : tame y) (w : World) :
  Calls Tryz.prog 133 #[.float .f64 x,.float .f64 y] w fun r w' => ∃ v', r = .returned v' ∧ OwnF w' w.heap.size v' (lessW x y) ∧ Below w.heap.size w w' := by
 have HD := Lib.hid (diff_walk x y hx hy)
 have HL : Hid (lessW x y = lessPre (sumLo x (fopp y)) (sumHi x (fopp y)) 2) := rfl
 obtain ⟨i0,hi,hz0,hz1,hz2⟩ := info_parts infoF
 clear hx hy
 generalize sumLo x (fopp y) = lo at *
 generalize sumHi x (fopp y) = hh at *
 go_enter Tryz.func133,Tryz.ntmps133
 go_wp2_with (go_at_call 134; refine (HD.out _).mono ?_; rintro r w1 ⟨rfl,hb1⟩)
 have s1 := hb1.size
 go_loopw [7,20] (fun e i wr => ∃ n : Nat,n ≤ 2 ∧ i = .int .i64 n ∧ OwnF wr (w1.heap.size + 1) e (lessPre lo hh n) ∧ wr.cell? ⟨w1.heap.size,0,none⟩ = some (.float .f64 lo) ∧ wr.cell? ⟨w1.heap.size,1,none⟩ = some (.float .f64 hh) ∧ Below (w1.heap.size + 1) (w1.alloc (.cells #[.float .f64 lo,.float .f64 hh] 66)) wr) (fun _ i _ => 2 - (intOf i).toNat)
 case atStart =>
  refine ⟨0,by omega,rfl,World.ownsRow_nil _ _ _ _,?_,?_,Below.refl _ _⟩
  ·rw [World.cell?_alloc_at _ _ _ _ rfl]; rfl
  ·rw [World.cell?_alloc_at _ _ _ _ rfl]; rfl
 case round =>
  obtain ⟨n,hn,rfl,hown,hc0,hc1,hbw⟩ := hrel
  have hsz := hbw.size
  simp at hsz
  have hcase : n = 0 ∨ n = 1 ∨ n = 2 := by omega
  rcases hcase with rfl | rfl | rfl
  ·have HP0 : Hid (lessPre lo hh 1 = lessPre lo hh 0 ++ keepF lo) := by unfold Hid; simp [lessPre]
   have HLn : Hid ((lessPre lo hh 0).length ≤ 4) := by have := keepF_len lo; unfold Hid; simp [lessPre]; try omega
   generalize lessPre lo hh 0 = o at *
   cases hne : fne lo 0
   ·have hkp : Hid (keepF lo = []) := by unfold Hid keepF; rw [hne]; rfl
    go_wp2
    go_roundw
    case rel => exact ⟨1,by omega,by first | rfl | go_num,by rw [HP0.out,hkp.out,List.append_nil]; exact hown,hc0,hc1,hbw⟩
    case measure => simp [intOf]
   ·have hkp : Hid (keepF lo = [lo]) := by unfold Hid keepF; rw [hne]; rfl
    go_wp2_with (at_builtin; refine wpList_append_own _ rfl _ _ 143 rfl (w1.heap.size + 1) 66 i0 (.float .f64 0) 1 8 Tryz.underlying143 hi hz0 hz1 hz2 rfl (by decide) _ _ _ rfl (hown.alloc _) ⟨wr.heap.size,0,none⟩ 1 1 [.float .f64 lo] rfl rfl ?c1 ?c2 ?c3 ?c4 ?c5 ?_)
    case c1 =>
     intro j u hj
     match j,hj with
     | 0,hj => simp at hj; subst hj; simp [Addr.add]
    case c2 => exact float_oneCell _
    case c3 => have := HLn.out; unfold maxLen; omega
    case c4 => have := HLn.out; omega
    case c5 => simp; omega
    intro v' w2 hown2 hgrow2 _
    have hlt1 := World.ownsRow.lt hown
    have hb2 : Below (w1.heap.size + 1) wr w2 := ((Below.refl _ _).alloc (by omega) _).grown hgrow2 (by simp; omega) (fun kk hkk => (hlt1 kk hkk).1)
    have hown3 : OwnF w2 (w1.heap.size + 1) v' (o ++ [lo]) := by unfold OwnF; rw [List.length_append,List.map_append]; exact hown2
    have hc0' : w2.cell? ⟨w1.heap.size,0,none⟩ = some (.float .f64 lo) := (hb2.cell (p := ⟨w1.heap.size,0,none⟩) (by simp)).trans hc0
    have hc1' : w2.cell? ⟨w1.heap.size,1,none⟩ = some (.float .f64 hh) := (hb2.cell (p := ⟨w1.heap.size,1,none⟩) (by simp)).trans hc1
    clear hown2 hgrow2 hlt1 hown hc0 hc1
    go_wp2
    go_roundw
    case rel => exact ⟨1,by omega,by first | rfl | go_num,by rw [HP0.out,hkp.out]; exact hown3,hc0', hc1', hbw.trans hb2⟩
    case measure => simp [intOf]
  ·have HP0 : Hid (lessPre lo hh 2 = lessPre lo hh 1 ++ keepF hh) := by unfold Hid; rfl
   have HLn : Hid ((lessPre lo hh 1).length ≤ 4) := by have := keepF_len lo; unfold Hid; simp [lessPre]; try omega
   generalize lessPre lo hh 1 = o at *
   cases hne : fne hh 0
   ·have hkp : Hid (keepF hh = []) := by unfold Hid keepF; rw [hne]; rfl
    go_wp2
    go_roundw
    case rel => exact ⟨2,by omega,by first | rfl | go_num,by rw [HP0.out,hkp.out,List.append_nil]; exact hown,hc0,hc1,hbw⟩
    case measure => simp [intOf]
   ·have hkp : Hid (keepF hh = [hh]) := by unfold Hid keepF; rw [hne]; rfl
    go_wp2_with (at_builtin; refine wpList_append_own _ rfl _ _ 143 rfl (w1.heap.size + 1) 66 i0 (.float .f64 0) 1 8 Tryz.underlying143 hi hz0 hz1 hz2 rfl (by decide) _ _ _ rfl (hown.alloc _) ⟨wr.heap.size,0,none⟩ 1 1 [.float .f64 hh] rfl rfl ?c1 ?c2 ?c3 ?c4 ?c5 ?_)
    case c1 =>
     intro j u hj
     match j,hj with
     | 0,hj => simp at hj; subst hj; simp [Addr.add]
    case c2 => exact float_oneCell _
    case c3 => have := HLn.out; unfold maxLen; omega
    case c4 => have := HLn.out; omega
    case c5 => simp; omega
    intro v' w2 hown2 hgrow2 _
    have hlt1 := World.ownsRow.lt hown
    have hb2 : Below (w1.heap.size + 1) wr w2 := ((Below.refl _ _).alloc (by omega) _).grown hgrow2 (by simp; omega) (fun kk hkk => (hlt1 kk hkk).1)
    have hown3 : OwnF w2 (w1.heap.size + 1) v' (o ++ [hh]) := by unfold OwnF; rw [List.length_append,List.map_append]; exact hown2
    have hc0' : w2.cell? ⟨w1.heap.size,0,none⟩ = some (.float .f64 lo) := (hb2.cell (p := ⟨w1.heap.size,0,none⟩) (by simp)).trans hc0
    have hc1' : w2.cell? ⟨w1.heap.size,1,none⟩ = some (.float .f64 hh) := (hb2.cell (p := ⟨w1.heap.size,1,none⟩) (by simp)).trans hc1
    clear hown2 hgrow2 hlt1 hown hc0 hc1
    go_wp2
    go_roundw
    case rel => exact ⟨2,by omega,by first | rfl | go_num,by rw [HP0.out,hkp.out]; exact hown3,hc0', hc1', hbw.trans hb2⟩
    case measure => simp [intOf]
  ·go_wp2
   go_ret
   refine ⟨_,rfl,by rw [HL.out]; exact ownsRow_base hown (by omega),?_⟩
   exact (hb1.alloc s1 _).trans (hbw.mono (by omega))
theorem coord_tame {x : Nat} (h64 : x < 2 ^ 64) (h : coordB x = true) : fin x ∧ (fval x).natAbs ≤ 2 ^ (unitE + 100) ∧ (2 : Int) ^ gridE ∣ fval x ∧ tame x := by
 unfold coordB at h
 rw [Bool.and_eq_true] at h
 have h1 := fin_of_le h64 h.1
 have h2 := le_of_le h64 h.1
 refine ⟨h1,h2,?_,h1,Nat.le_trans h2 (Nat.pow_le_pow_right (by decide) (by decide))⟩
 have h3 := of_decide_eq_true h.2
 have h4 : 2 ^ gridE ∣ (fval x).natAbs := Nat.dvd_of_mod_eq_zero h3
 have h5 : ((2 ^ gridE : Nat) : Int) ∣ fval x := Int.dvd_natAbs.1 (Int.natCast_dvd_natCast.2 h4)
 have cast : ((2 ^ gridE : Nat) : Int) = (2 : Int) ^ gridE := by simp
 rwa [cast] at h5
theorem less_facts {x y : Nat} (hx : x < 2 ^ 64) (hy : y < 2 ^ 64) (cx : coordB x = true) (cy : coordB y = true) :
  SafeL (lessW x y) ∧ isum ((lessW x y).map fval) = fval x - fval y ∧ ∀ z,z ∈ lessW x y → (2 : Int) ^ gridE ∣ fval z := by
 obtain ⟨x1,x2,x3,x4⟩ := coord_tame hx cx
 obtain ⟨y1,y2,y3,y4⟩ := coord_tame hy cy
 obtain ⟨d1,d2,d3,d4⟩ := diff_val x4 y4
 have k1 := keepF_vals d2
 have k2 := keepF_vals d1
 have hD : (2 : Int) ^ gridE ∣ fval x - fval y := Int.dvd_sub x3 y3
 have hR := rn_dvd hD
 have hDa : (fval x - fval y).natAbs ≤ 2 ^ (unitE + 101) := nsub_pow x2 y2 (by decide) (by decide)
 have hRa := rn_le_pow hDa
 have hrest := rest_small (fval x - fval y)
 have hfins : ∀ z,z ∈ lessW x y → fin z := by
  intro z hz
  unfold lessW at hz
  rcases List.mem_append.1 hz with h | h
  ·exact k1.2 z h
  ·exact k2.2 z h
 have hmem : ∀ z,z ∈ lessW x y → (z = sumLo x (fopp y) ∨ z = sumHi x (fopp y)) ∧ fval z ≠ 0 := by
  intro z hz
  have hf := hfins z hz
  unfold lessW keepF at hz
  rw [fne_zero d2,fne_zero d1] at hz
  rcases List.mem_append.1 hz with h | h
  ·split at h
   ·rename_i hc
    simp at h; subst h
    exact ⟨Or.inl rfl,by simpa using hc⟩
   ·cases h
  ·split at h
   ·rename_i hc
    simp at h; subst h
    exact ⟨Or.inr rfl,by simpa using hc⟩
   ·cases h
 have hgrid : ∀ z,z ∈ lessW x y → (2 : Int) ^ gridE ∣ fval z := by
  intro z hz
  rcases (hmem z hz).1 with h | h
  ·rw [h,d4]; exact Int.dvd_sub hD hR
  ·rw [h,d3]; exact hR
 have hsafe : ∀ z,z ∈ lessW x y → safe z := by
  intro z hz
  refine ⟨hfins z hz,?_,?_⟩
  ·exact Nat.le_trans (Nat.pow_le_pow_right (by decide) (by decide)) (natAbs_ge_of_dvd (hgrid z hz) (hmem z hz).2)
  ·have hb : (fval z).natAbs ≤ 2 ^ (unitE + 101) := by
    rcases (hmem z hz).1 with h | h
    ·rw [h,d4]
     obtain ⟨q,hq⟩ : ∃ q : Nat,q = 2 ^ (unitE + 101) := ⟨_,rfl⟩
     rw [← hq] at hDa ⊢
     clear hq
     omega
    ·rw [h,d3]; exact hRa
   exact Nat.le_trans hb (Nat.pow_le_pow_right (by decide) (by decide))
 have hsum : isum ((lessW x y).map fval) = fval x - fval y := by
  unfold lessW
  rw [List.map_append,isum_append,k1.1,k2.1]
  have e : ∀ z : Int,isum (if z = 0 then [] else [z]) = z := by
   intro z; split
   ·rename_i h; rw [h]; rfl
   ·simp [isum]
  rw [e,e,d3,d4]; omega
 have hnov : nov 0 ((lessW x y).map fval) := by
  unfold lessW
  rw [List.map_append,k1.1,k2.1]
  obtain ⟨k,⟨q,hq⟩,h1,h2,h3⟩ := rn_unit (fval x - fval y)
  clear h3
  by_cases hl : fval (sumLo x (fopp y)) = 0
  ·rw [if_pos hl]
   by_cases hh : fval (sumHi x (fopp y)) = 0
   ·rw [if_pos hh]; trivial
   ·rw [if_neg hh]; exact ⟨hh,⟨0,by simp,by simp⟩,trivial⟩
  ·rw [if_neg hl]
   by_cases hh : fval (sumHi x (fopp y)) = 0
   ·rw [if_pos hh]; exact ⟨hl,⟨0,by simp,by simp⟩,trivial⟩
   ·rw [if_neg hh]
    refine ⟨hl,⟨0,by simp,by simp⟩,hh,⟨k,?_,by rw [d3,hq]; exact ⟨q,Int.mul_comm _ _⟩⟩,trivial⟩
    rw [d4]
    have := two_pow_pos k
    clear hq
    omega
 exact ⟨⟨hfins,all_true (by unfold lessW; rw [List.length_append]; have := keepF_len (sumLo x (fopp y)); have := keepF_len (sumHi x (fopp y)); omega) (good_of_nov _ hfins 0 hnov _ _ (fun z hz => within_of_safe (hsafe z hz)))⟩,hsum,hgrid⟩
end Go.Proofs.YtbagikgpgdlkcaaGreatDoor
