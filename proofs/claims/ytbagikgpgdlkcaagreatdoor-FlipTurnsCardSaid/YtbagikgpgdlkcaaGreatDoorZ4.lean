/- Part of the proof. No conditions. -/
import Derived.Test.YtbagikgpgdlkcaaGreatDoorZ3
set_option linter.all false
set_option maxHeartbeats 8000000
set_option maxRecDepth 100000
namespace Tvf
def dn : List Int → Prop
 | [] => True
 | x :: r => x ≠ 0 ∧ (∃ k : Nat,(2 : Int) ^ k ∣ x ∧ absSum r < 2 ^ k) ∧ dn r
def p1 : Int → List Int → List Int × Int
 | q,[] => ([],q)
 | q,x :: r => if q + x - rn (q + x) = 0 then p1 (rn (q + x)) r else ((p1 (q + x - rn (q + x)) r).1 ++ [rn (q + x)],(p1 (q + x - rn (q + x)) r).2)
theorem p1_sum (d : List Int) : ∀ q,isum (p1 q d).1 + (p1 q d).2 = q + isum d := by
 induction d with
 | nil => intro q; simp [p1,isum]
 | cons x r ih =>
  intro q; unfold p1
  split
  ·rw [ih]; simp only [isum]; omega
  ·have := ih (q + x - rn (q + x))
   simp only [isum_append,isum] at *; omega
theorem p1_rep (d : List Int) : ∀ q,rep q → (∀ y,y ∈ d → rep y) → rep (p1 q d).2 ∧ ∀ y,y ∈ (p1 q d).1 → rep y := by
 induction d with
 | nil => intro q hq _; exact ⟨hq,fun y hy => by cases hy⟩
 | cons x r ih =>
  intro q hq hd; unfold p1
  have hr : ∀ y,y ∈ r → rep y := fun y hy => hd y (List.mem_cons_of_mem _ hy)
  split
  ·exact ih _ (rep_rn _) hr
  ·have := ih _ (sum_rest hq (hd x (List.mem_cons_self ..))) hr
   refine ⟨this.1,fun y hy => ?_⟩
   rcases List.mem_append.1 hy with h | h
   ·exact this.2 y h
   ·simp at h; rw [h]; exact rep_rn _
theorem p1_dvd (k : Nat) (d : List Int) : ∀ q,(2 : Int) ^ k ∣ q → (∀ y,y ∈ d → (2 : Int) ^ k ∣ y) → (2 : Int) ^ k ∣ (p1 q d).2 ∧ ∀ y,y ∈ (p1 q d).1 → (2 : Int) ^ k ∣ y := by
 induction d with
 | nil => intro q hq _; exact ⟨hq,fun y hy => by cases hy⟩
 | cons x r ih =>
  intro q hq hd; unfold p1
  have hr : ∀ y,y ∈ r → (2 : Int) ^ k ∣ y := fun y hy => hd y (List.mem_cons_of_mem _ hy)
  have hs : (2 : Int) ^ k ∣ q + x := Int.dvd_add hq (hd x (List.mem_cons_self ..))
  have hrn := rn_dvd hs
  split
  ·exact ih _ hrn hr
  ·have := ih _ (Int.dvd_sub hs hrn) hr
   refine ⟨this.1,fun y hy => ?_⟩
   rcases List.mem_append.1 hy with h | h
   ·exact this.2 y h
   ·simp at h; rw [h]; exact hrn
theorem p1_len (d : List Int) : ∀ q,(p1 q d).1.length ≤ d.length := by
 induction d with
 | nil => intro q; simp [p1]
 | cons x r ih =>
  intro q; unfold p1
  split
  ·have := ih (rn (q + x)); simp only [List.length_cons]; omega
  ·have := ih (q + x - rn (q + x)); simp only [List.length_append,List.length_cons,List.length_nil]; omega
theorem natAbs_two_pow' (k : Nat) : ((2 : Int) ^ k).natAbs = 2 ^ k := by rw [Int.natAbs_pow]; rfl
theorem nov_snoc (l : List Int) (g s : Int) (p : Nat) (h : nov p (l ++ [g])) (hs : s ≠ 0) (hg : ∃ v : Nat,g.natAbs < 2 ^ v ∧ (2 : Int) ^ v ∣ s) : nov p (l ++ [g] ++ [s]) := by
 induction l generalizing p with
 | nil => exact ⟨h.1,h.2.1,hs,hg,trivial⟩
 | cons x r ih => exact ⟨h.1,h.2.1,ih _ h.2.2⟩
theorem natAbs_ge_of_dvd {k : Nat} {x : Int} (h : (2 : Int) ^ k ∣ x) (h0 : x ≠ 0) : 2 ^ k ≤ x.natAbs := by
 have := Int.natAbs_dvd_natAbs.2 h
 rw [Int.natAbs_pow] at this
 exact Nat.le_of_dvd (by omega) this
theorem rn_ge_pow {z : Int} {k : Nat} (h : 2 ^ k ≤ z.natAbs) : 2 ^ k ≤ (rn z).natAbs := by
 have hr : rep ((2 : Int) ^ k) := by
  have := rep_of (m := 1) k (by decide); rw [Int.one_mul] at this; exact this
 have cast : ((2 ^ k : Nat) : Int) = (2 : Int) ^ k := by simp
 by_cases h0 : 0 ≤ z
 ·have m := rn_mono (a := 2 ^ k) (b := z) (by rw [← cast]; omega)
  rw [rn_rep hr,← cast] at m; omega
 ·have m := rn_mono (a := z) (b := -(2 ^ k)) (by rw [← cast]; omega)
  rw [rn_rep (rep_neg hr),← cast] at m; omega
theorem emit {z T : Int} {j : Nat} (hz : (2 : Int) ^ j ∣ z) (h : z - rn z ≠ 0) (hT : T.natAbs < 2 ^ j) :
  ∃ v : Nat,(2 : Int) ^ v ∣ rn z ∧ 4 * (z - rn z + T).natAbs ≤ 3 * 2 ^ v ∧ 2 ^ 51 * 2 ^ v ≤ (rn z).natAbs := by
 obtain ⟨k,⟨q,hq⟩,h1,h2,h3⟩ := rn_unit z
 have hne : rn z ≠ z := fun e => h (by omega)
 obtain ⟨h4,hk1⟩ := h2 hne
 have hd : (2 : Int) ^ j ∣ z - rn z := Int.dvd_sub hz (rn_dvd hz)
 have hge := natAbs_ge_of_dvd hd h
 have hk : 2 ^ k = 2 * 2 ^ (k - 1) := by rw [show k = k - 1 + 1 by omega,Nat.pow_succ]; simp; omega
 have hjk : j ≤ k - 1 := by
  have : 2 ^ j ≤ 2 ^ (k - 1) := by clear hq h3; omega
  exact (Nat.pow_le_pow_iff_right (show 1 < 2 by omega)).1 this
 have hrn := rn_ge_pow h4
 by_cases hj : j = k - 1
 ·
  have htie : 2 * (rn z - z).natAbs = 2 ^ k := by rw [hj] at hge; clear hq h3; omega
  obtain ⟨q', hq'⟩ := h3 htie
  refine ⟨k + 1,⟨q', by rw [hq', Int.mul_comm]⟩,?_,?_⟩
  ·rw [hj] at hT; rw [Nat.pow_succ]; clear hq h3 hq'; omega
  ·rw [show (52 + k) = 51 + (k + 1) by omega,Nat.pow_add] at hrn; exact hrn
 ·refine ⟨k,⟨q,by rw [hq,Int.mul_comm]⟩,?_,?_⟩
  ·have hj2 : j ≤ k - 1 - 1 := by omega
   have p2 : 2 ^ j ≤ 2 ^ (k - 1 - 1) := Nat.pow_le_pow_right (by omega) hj2
   have p3 : 2 ^ (k - 1) = 2 * 2 ^ (k - 1 - 1) := by rw [show k - 1 = k - 1 - 1 + 1 by omega,Nat.pow_succ]; simp; omega
   clear hq h3; omega
  ·rw [Nat.pow_add] at hrn
   clear hq h3; omega
theorem p1_top (d : List Int) : ∀ q,(∃ k : Nat,(2 : Int) ^ k ∣ q ∧ absSum d < 2 ^ k) → dn d →
  ((p1 q d).1 = [] ∧ (p1 q d).2 = q + isum d) ∨
  ∃ gs g,(p1 q d).1 = gs ++ [g] ∧ g ≠ 0 ∧ 2 ^ 50 * (q + isum d - g).natAbs ≤ g.natAbs ∧ nov 0 (gs ++ [g]) ∧ 2 ^ 48 * (absSum gs + (p1 q d).2.natAbs) ≤ g.natAbs ∧ 2 ^ (51 * gs.length) ≤ g.natAbs := by
 induction d with
 | nil => intro q _ _; left; simp [p1,isum]
 | cons x r ih =>
  intro q ⟨k,hk1,hk2⟩ ⟨hx0,⟨j,hj1,hj2⟩,hr⟩
  simp only [absSum] at hk2
  have hjk : j < k := dvd_lt hj1 hx0 (by omega)
  have hz : (2 : Int) ^ j ∣ q + x := Int.dvd_add (dvd_mono (Nat.le_of_lt hjk) hk1) hj1
  unfold p1
  split
  · rename_i h0
    have := ih (rn (q + x)) ⟨j,rn_dvd hz,hj2⟩ hr
    rw [show rn (q + x) + isum r = q + isum (x :: r) by simp only [isum]; omega] at this
    exact this
  · rename_i h0
    right
    have hT : (isum r).natAbs < 2 ^ j := Nat.lt_of_le_of_lt (isum_le r) hj2
    obtain ⟨v,v1,v2,v3⟩ := emit hz h0 hT
    have hs0 : rn (q + x) ≠ 0 := by have := two_pow_pos v; omega
    have hT2 : q + isum (x :: r) - rn (q + x) = q + x - rn (q + x) + isum r := by simp only [isum]; omega
    rcases ih (q + x - rn (q + x)) ⟨j,Int.dvd_sub hz (rn_dvd hz),hj2⟩ hr with ⟨g1,g2⟩ | ⟨gs,g,g1,g2,g3,g4,g5,g6⟩
    ·rw [g1,g2]
     generalize q + x - rn (q + x) + isum r = T at *
     generalize rn (q + x) = S at *
     refine ⟨[],S,rfl,hs0,by rw [hT2]; clear hz hj1 hk1 v1; omega,⟨hs0,⟨0,by simp,by simp⟩,trivial⟩,?_,by simp; omega⟩
     simp only [absSum]
     clear hz hj1 hk1 v1; omega
    ·rw [g1]
     generalize (p1 (q + x - rn (q + x)) r).2 = F at *
     generalize q + x - rn (q + x) + isum r = T at *
     generalize rn (q + x) = S at *
     have hgv : g.natAbs < 2 ^ v := by clear hz hj1 hk1 v1; omega
     refine ⟨gs ++ [g],S,rfl,hs0,by rw [hT2]; clear hz hj1 hk1 v1; omega,nov_snoc gs g S 0 g4 hs0 ⟨v,hgv,v1⟩,?_,?_⟩
     ·rw [absSum_append]; simp only [absSum]
      clear hz hj1 hk1 v1; omega
     ·rw [List.length_append,show 51 * (gs.length + [g].length) = 51 + 51 * gs.length by simp; omega,Nat.pow_add]
      have h1 : 2 ^ 51 * g.natAbs ≤ 2 ^ 51 * 2 ^ v := Nat.mul_le_mul_left _ (Nat.le_of_lt hgv)
      have h2 := Nat.mul_le_mul_left (2 ^ 51) g6
      omega
theorem dn_of_nov {l : List Int} {p : Nat} (h : nov p l) : dn l.reverse := by
 have gen : ∀ (l : List Int) (p P : Nat) (done : List Int),nov p l → absSum done ≤ P → (∀ x r,l = x :: r → ∃ k : Nat,P < 2 ^ k ∧ (2 : Int) ^ k ∣ x) → dn done → dn (l.reverse ++ done) := by
  intro l
  induction l with
  | nil => intro p P done _ _ _ hd; exact hd
  | cons x r ih =>
   intro p P done hn hP hk hd
   obtain ⟨k,hk1,hk2⟩ := hk x r rfl
   rw [List.reverse_cons,List.append_assoc]
   refine ih x.natAbs (P + x.natAbs) (x :: done) hn.2.2 (by simp only [absSum]; omega) ?_ ⟨hn.1,⟨k,hk2,by omega⟩,hd⟩
   intro y r' e
   subst e
   obtain ⟨j,hj1,hj2⟩ := hn.2.2.2.1
   refine ⟨j,?_,hj2⟩
   have hkj := dvd_lt hk2 hn.1 hj1
   obtain ⟨c,hc⟩ := hk2
   have e1 : x.natAbs = 2 ^ k * c.natAbs := by rw [hc,Int.natAbs_mul,natAbs_two_pow']
   have e2 : 2 ^ j = 2 ^ k * 2 ^ (j - k) := by rw [← Nat.pow_add,show k + (j - k) = j by omega]
   rw [e1,e2] at hj1
   have := Nat.lt_of_mul_lt_mul_left hj1
   have h2 : 2 ^ k * (c.natAbs + 1) ≤ 2 ^ k * 2 ^ (j - k) := Nat.mul_le_mul_left _ (by omega)
   rw [Nat.mul_add,Nat.mul_one] at h2
   rw [e1,e2]; omega
 have := gen l p 0 [] (nov_mono (Nat.zero_le p) h |> fun h' => nov_mono (Nat.le_refl _) h) (by simp [absSum]) ?_ trivial
 ·rw [List.append_nil] at this; exact this
 ·intro x r e
  subst e
  obtain ⟨k,hk1,hk2⟩ := h.2.1
  exact ⟨k,by omega,hk2⟩
def neatI (l : List Int) : List Int :=
 match l.reverse with
 | [] => []
 | q :: d => growGo (p1 q d).2 (p1 q d).1
theorem neat_all {l : List Int} {p : Nat} (h : nov p l) (hrep : ∀ y,y ∈ l → rep y) (hlen : l.length ≤ 2 ^ 10) :
  isum (neatI l) = isum l ∧ nov 0 (neatI l) ∧ (∀ y,y ∈ neatI l → y ≠ 0) ∧ (∀ y,y ∈ neatI l → rep y) ∧
  absSum (neatI l) ≤ 8 * (isum l).natAbs ∧ (∀ M,(isum l).natAbs < 2 ^ (M + 50) → (neatI l).length * 51 ≤ M + 204) ∧
  (∀ k : Nat,(∀ y,y ∈ l → (2 : Int) ^ k ∣ y) → ∀ y,y ∈ neatI l → (2 : Int) ^ k ∣ y) := by
 have hdn := dn_of_nov h
 have hsum := isum_reverse l
 have hmem : ∀ y,y ∈ l.reverse ↔ y ∈ l := fun y => List.mem_reverse
 have hl2 : l.reverse.length = l.length := List.length_reverse
 unfold neatI
 generalize l.reverse = d at *
 cases d with
 | nil =>
  simp only at *
  rw [← hsum]
  have hno : ∀ (P : Int → Prop) (y : Int),y ∈ ([] : List Int) → P y := fun P y hy => by cases hy
  exact ⟨rfl,trivial,hno _,hno _,by simp [absSum],fun M _ => by simp,fun k _ => hno _⟩
 | cons q d =>
  simp only at *
  have hq : rep q := hrep q ((hmem q).1 (List.mem_cons_self ..))
  have hd : ∀ y,y ∈ d → rep y := fun y hy => hrep y ((hmem y).1 (List.mem_cons_of_mem _ hy))
  have hrp := p1_rep d q hq hd
  have hs := p1_sum d q
  have hpl := p1_len d q
  have htop := p1_top d q hdn.2.1 hdn.2.2
  have hgs := growGo_sum (p1 q d).1 (p1 q d).2
  have hga := growGo_abs (p1 q d).2 (p1 q d).1 (by simp at hl2; omega)
  have hgl := growGo_len (p1 q d).1 (p1 q d).2
  have hisum : isum l = q + isum d := by rw [← hsum]; rfl
  have hnov : nov 0 (p1 q d).1 := by
   rcases htop with ⟨g1,_⟩ | ⟨gs,g,g1,_,_,g4,_⟩
   ·rw [g1]; trivial
   ·rw [g1]; exact g4
  refine ⟨by rw [hgs,hisum]; omega,growGo_nov _ 0 0 _ hrp.1 ⟨0,by simp,by simp,fun y _ => by simp⟩ hnov,growGo_nz _ _,growGo_rep _ _ hrp.1 hrp.2,?_,?_,?_⟩
  ·rw [hisum]
   generalize absSum (growGo (p1 q d).2 (p1 q d).1) = W at *
   rcases htop with ⟨g1,g2⟩ | ⟨gs,g,g1,g2,g3,g4,g5,g6⟩
   ·rw [g1,g2] at hga; simp only [absSum] at hga; omega
   ·rw [g1,absSum_append] at hga; simp only [absSum] at hga; omega
  ·intro M hM
   rw [hisum] at hM
   rcases htop with ⟨g1,g2⟩ | ⟨gs,g,g1,g2,g3,g4,g5,g6⟩
   ·rw [g1] at hgl ⊢; simp at hgl ⊢; omega
   ·have h1 : 2 ^ (51 * gs.length) < 2 ^ (M + 51) := by
     have : 2 ^ (M + 51) = 2 * 2 ^ (M + 50) := by rw [show M + 51 = M + 50 + 1 by omega,Nat.pow_succ]; omega
     omega
    have h2 := (Nat.pow_lt_pow_iff_right (show 1 < 2 by omega)).1 h1
    rw [g1] at hgl ⊢
    simp only [List.length_append,List.length_cons,List.length_nil] at hgl
    omega
  ·intro k hk
   have hqk : (2 : Int) ^ k ∣ q := hk q ((hmem q).1 (List.mem_cons_self ..))
   have hdk : ∀ y,y ∈ d → (2 : Int) ^ k ∣ y := fun y hy => hk y ((hmem y).1 (List.mem_cons_of_mem _ hy))
   have := p1_dvd k d q hqk hdk
   exact growGo_dvd k _ _ this.1 this.2
end Tvf
namespace Go.Proofs.YtbagikgpgdlkcaaGreatDoor
open Go.RowKit Tvf
def keepF (q : Nat) : List Nat := if fne q 0 then [q] else []
def gq : Nat → List Nat → Nat
 | q,[] => q
 | q,x :: r => gq (sumHi q x) r
def gout : Nat → List Nat → List Nat
 | _,[] => []
 | q,x :: r => keepF (sumLo q x) ++ gout (sumHi q x) r
def growW (b : Nat) (l : List Nat) : List Nat := gout b l ++ keepF (gq b l)
def runOK : Nat → List Nat → Prop
 | q,[] => tame q
 | q,x :: r => tame q ∧ tame x ∧ runOK (sumHi q x) r
theorem gq_snoc (l : List Nat) (x : Nat) : ∀ q,gq q (l ++ [x]) = sumHi (gq q l) x := by
 induction l with
 | nil => intro q; rfl
 | cons y r ih => intro q; exact ih _
theorem gout_snoc (l : List Nat) (x : Nat) : ∀ q,gout q (l ++ [x]) = gout q l ++ keepF (sumLo (gq q l) x) := by
 induction l with
 | nil => intro q; simp [gout,gq]
 | cons y r ih => intro q; simp only [List.cons_append,gout,gq,ih,List.append_assoc]
theorem take_snoc' (l : List Nat) (k : Nat) (h : k < l.length) : l.take (k + 1) = l.take k ++ [l.getD k 0] := by
 rw [List.take_succ_eq_append_getElem h,List.getD_eq_getElem?_getD,List.getElem?_eq_getElem h]; rfl
theorem runOK_at {l : List Nat} : ∀ {q : Nat},runOK q l → ∀ k,k ≤ l.length → tame (gq q (l.take k)) ∧ (k < l.length → tame (l.getD k 0)) := by
 induction l with
 | nil => intro q h k hk; simp at hk; subst hk; exact ⟨h,fun h => by simp at h⟩
 | cons x r ih =>
  intro q h k hk
  cases k with
  | zero => exact ⟨h.1,fun _ => h.2.1⟩
  | succ k =>
   have := ih h.2.2 k (by simp at hk; omega)
   exact ⟨this.1,fun hh => this.2 (by simp at hh; omega)⟩
theorem gout_len (l : List Nat) : ∀ q,(gout q l).length ≤ l.length := by
 induction l with
 | nil => intro q; simp [gout]
 | cons x r ih =>
  intro q; unfold gout
  have := ih (sumHi q x)
  rw [List.length_append,List.length_cons]
  unfold keepF
  split <;> simp <;> omega
theorem fne_zero {x : Nat} (hx : fin x) : fne x 0 = decide (fval x ≠ 0) := by
 rw [fne_val hx (by unfold fin; omega)]; rfl
theorem keepF_vals {q : Nat} (hq : fin q) : (keepF q).map fval = (if fval q = 0 then [] else [fval q]) ∧ ∀ x,x ∈ keepF q → fin x := by
 unfold keepF
 rw [fne_zero hq]
 by_cases h : fval q = 0
 ·simp [h]
 ·simp [h,hq]
theorem growW_vals {l : List Nat} : ∀ {q : Nat},runOK q l → (growW q l).map fval = growGo (fval q) (l.map fval) ∧ ∀ x,x ∈ growW q l → fin x := by
 induction l with
 | nil =>
  intro q h
  have := keepF_vals h.1
  exact ⟨this.1,this.2⟩
 | cons x r ih =>
  intro q h
  obtain ⟨_,_,_,_,_,s6,s7,s8⟩ := sum_fin h.1 h.2.1
  have := ih h.2.2
  unfold growW at this ⊢
  have hk := keepF_vals s6
  simp only [gout,gq,List.map_cons,growGo]
  rw [← s8,← s7]
  by_cases h0 : fval (sumLo q x) = 0
  ·rw [if_pos h0] at hk ⊢
   have hk1 : keepF (sumLo q x) = [] := by simpa using hk.1
   rw [hk1,List.nil_append]; exact this
  ·rw [if_neg h0] at hk ⊢
   refine ⟨by rw [List.append_assoc,List.map_append,hk.1,this.1]; rfl,?_⟩
   intro y hy
   rw [List.append_assoc] at hy
   rcases List.mem_append.1 hy with e | e
   ·exact hk.2 y e
   ·exact this.2 y e
theorem runOK_of (K : Nat) (hK : K + 11 ≤ unitE + 1000) (l : List Nat) : ∀ q,fin q → (∀ x,x ∈ l → fin x) → l.length ≤ 1024 → (fval q).natAbs + absSum (l.map fval) ≤ 2 ^ K * (2048 - l.length) → runOK q l := by
 have hbig : 2 ^ K * 2048 ≤ 2 ^ (unitE + 1000) := by
  have : 2 ^ K * 2 ^ 11 ≤ 2 ^ (unitE + 1000) := by rw [← Nat.pow_add]; exact Nat.pow_le_pow_right (by omega) hK
  exact this
 induction l with
 | nil =>
  intro q hq _ _ hb
  refine ⟨hq,?_⟩
  simp only [List.map_nil,absSum,List.length_nil] at hb
  generalize 2 ^ K = P at *
  generalize 2 ^ (unitE + 1000) = T at *
  omega
 | cons x r ih =>
  intro q hq hl hlen hb
  have hx := hl x (List.mem_cons_self ..)
  simp only [List.map_cons,absSum,List.length_cons] at hb hlen
  have hle : 2 ^ K * (2048 - (r.length + 1)) ≤ 2 ^ K * 2048 := Nat.mul_le_mul_left _ (by omega)
  have tq : tame q := ⟨hq,by generalize 2 ^ (unitE + 1000) = T at *; omega⟩
  have tx : tame x := ⟨hx,by generalize 2 ^ (unitE + 1000) = T at *; omega⟩
  obtain ⟨s1,_,_,_,_,s6,s7,s8⟩ := sum_fin tq tx
  refine ⟨tq,tx,ih _ s1 (fun y hy => hl y (List.mem_cons_of_mem _ hy)) (by omega) ?_⟩
  rw [s7]
  have hr := rest_small (fval q + fval x)
  have e : 2 ^ K * (2048 - r.length) = 2 ^ K * (2048 - (r.length + 1)) + 2 ^ K := by
   rw [show 2048 - r.length = 2048 - (r.length + 1) + 1 by omega,Nat.mul_add,Nat.mul_one]
  rw [e]
  generalize 2 ^ K * (2048 - (r.length + 1)) = C at *
  generalize 2 ^ K = P at *
  generalize fval q = Q at *
  generalize fval x = X at *
  generalize absSum (r.map fval) = S at *
  clear ih hl s1 s6 s7 s8 tq tx hbig
  omega
theorem infoF : (Tryz.prog.info? 66).map (fun i => (i.zero,i.size,i.bytes)) = some (some (.float .f64 0),1,8) := by kernel_rfl
def OwnF (w : World) (base : Nat) (v : Value) (l : List Nat) : Prop := w.ownsRow base 66 1 v l.length (l.map (Value.float .f64))
theorem ownsRow_below {w w' : World} {base : Nat} {e : TypeId} {size : Nat} {v : Value} {n : Nat} {xs : List Value} (h : w.ownsRow base e size v n xs) (hb : Below w.heap.size w w') : w'.ownsRow base e size v n xs := by
 have hlt := h.lt
 obtain ⟨h1,h2 | ⟨g,cap,cur,e1,e2,e3,e4,e5,e6,e7⟩⟩ := h
 ·exact ⟨h1,Or.inl h2⟩
 ·refine ⟨h1,Or.inr ⟨g,cap,cur,e1,e2,?_,e4,e5,e6,e7⟩⟩
  have := hlt g (by rw [e1]; rfl)
  rw [hb.block g this.2]; exact e3
theorem FSl_of_own {w : World} {base : Nat} {v : Value} {l : List Nat} (h : OwnF w base v l) (hl : l.length ≤ 4294967296) (h64 : ∀ x,x ∈ l → x < 2 ^ 64) : FSl w v l := by
 refine ⟨hl,h64,?_⟩
 have hlt := World.ownsRow.lt h
 have hcells := fun {g : Nat} (hg : v.ownBlock = some g) => World.ownsRow.cells h hg
 obtain ⟨h1,⟨h2,h3⟩ | ⟨g,cap,cur,e1,e2,e3,e4,e5,e6,e7⟩⟩ := h
 ·left; exact ⟨h2,List.length_eq_zero_iff.1 h3⟩
 ·right
  refine ⟨g,0,cap,e1,(hlt g (by rw [e1]; rfl)).2,?_⟩
  intro i hi
  have := hcells (g := g) (by rw [e1]; rfl) i (.float .f64 (l.getD i 0)) (by
   rw [List.getElem?_map,List.getElem?_eq_getElem hi,List.getD_eq_getElem?_getD,List.getElem?_eq_getElem hi]; rfl)
  rw [Nat.zero_add]
  by_cases h0 : i = 0
  ·subst h0; simpa [Addr.add] using this
  ·simpa [Addr.add,h0] using this
theorem float_oneCell (x : Nat) : ∀ u ∈ [Value.float .f64 x],u.oneCell' = true := by intro u hu; simp at hu; subst hu; rfl
theorem grow_walk (l : List Nat) (v : Value) (b : Nat) (hr : runOK b l) (hlen : l.length ≤ 1024) (w : World) (hv : FSl w v l) :
  Calls Tryz.prog 196 #[v,.float .f64 b] w fun e w' => ∃ v', e = .returned v' ∧ OwnF w' w.heap.size v' (growW b l) ∧ Below w.heap.size w w' := by
 obtain ⟨ad,cap,rfl,hcell⟩ := hv.form
 obtain ⟨i0,hi,hz0,hz1,hz2⟩ := info_parts infoF
 clear hv
 have HR : Hid (runOK b l) := hr
 have HC := Lib.hid hcell
 clear hr hcell
 go_enter Tryz.func196,Tryz.ntmps196
 go_wp2_with (at_make; refine wpList_make_own _ rfl _ _ 143 rfl w.heap.size 66 i0 (.float .f64 0) 1 Tryz.underlying143 hi hz0 hz1 _ _ _ (l.length + 1) rfl rfl ?c1 ?c2 ?c3 (Nat.le_refl _) ?_)
 case c1 => omega
 case c2 => rw [hz2]; omega
 case c3 => unfold maxLen; omega
 intro w0 hown0 hgrow0
 go_wp2
 have hb0 : Below w.heap.size w w0 := (Below.refl _ _).grown hgrow0 (Nat.le_refl _) (fun k hk => by cases hk)
 clear hgrow0
 go_loopw [5,6,17] (fun out q i wr => ∃ k : Nat,k ≤ l.length ∧ i = .int .i64 k ∧ q = .float .f64 (gq b (l.take k)) ∧ OwnF wr w.heap.size out (gout b (l.take k)) ∧ Below w.heap.size w wr) (fun _ _ i _ => l.length - (intOf i).toNat)
 case atStart => exact ⟨0,Nat.zero_le _,rfl,rfl,hown0,hb0⟩
 case round =>
  clear hown0 hb0
  obtain ⟨k,hk,rfl,rfl,hown,hbw⟩ := hrel
  by_cases hlt : k < l.length
  ·obtain ⟨bb,off,rfl,hbb,hc⟩ := HC.out (by omega)
   have hck := hc k hlt
   have hck : wr.cell? ⟨bb,off + k,none⟩ = some (.float .f64 (l.getD k 0)) := (hbw.cell (p := ⟨bb,off + k,none⟩) hbb).trans hck
   have hR := runOK_at HR (k + 1) (by omega)
   have hRk := runOK_at HR k (by omega)
   have hgq := gq_snoc (l.take k) (l.getD k 0) b
   have hgo := gout_snoc (l.take k) (l.getD k 0) b
   rw [← take_snoc' l k hlt] at hgq hgo
   have HS := Lib.hid (sum_walk (gq b (l.take k)) (l.getD k 0) hRk.1 (hRk.2 hlt))
   have hll := gout_len (l.take k) b
   have hll2 : (l.take k).length = k := by rw [List.length_take]; omega
   have HQ := Lib.hid hgq
   have HO := Lib.hid hgo
   have HL : Hid ((gout b (l.take k)).length ≤ k) := by unfold Hid; omega
   clear hc hR hRk hgq hgo hll hll2
   generalize l.getD k 0 = x at *
   generalize gq b (l.take k) = q at *
   generalize gout b (l.take k) = o at *
   cases hne : fne (sumLo q x) 0
   ·have hkp : Hid (keepF (sumLo q x) = []) := by unfold Hid keepF; rw [hne]; rfl
    go_wp2_with (go_at_call 185; refine (HS.out _).mono ?_; rintro e w1 ⟨rfl,hb1⟩)
    go_roundw
    case rel => exact ⟨k + 1,by omega,by go_num,by rw [HQ.out],by rw [HO.out,hkp.out,List.append_nil]; exact ownsRow_below hown hb1,hbw.trans (hb1.mono hbw.size)⟩
    case measure => simp [intOf]; omega
   ·have hkp : Hid (keepF (sumLo q x) = [sumLo q x]) := by unfold Hid keepF; rw [hne]; rfl
    go_wp2_with (first
     |(go_at_call 185; refine (HS.out _).mono ?_; rintro e w1 ⟨rfl,hb1⟩; have hown1 := ownsRow_below hown hb1; clear hown)
     |(at_builtin; refine wpList_append_own _ rfl _ _ 143 rfl w.heap.size 66 i0 (.float .f64 0) 1 8 Tryz.underlying143 hi hz0 hz1 hz2 rfl (by decide) _ _ _ rfl (hown1.alloc _) ⟨w1.heap.size,0,none⟩ 1 1 [.float .f64 (sumLo q x)] rfl rfl ?c1 ?c2 ?c3 ?c4 ?c5 ?_))
    case c1 =>
     intro j u hj
     match j,hj with
     | 0,hj => simp at hj; subst hj; simp [Addr.add]
    case c2 => exact float_oneCell _
    case c3 => have := HL.out; unfold maxLen; omega
    case c4 => have := HL.out; omega
    case c5 => have := hbw.size; have := hb1.size; simp; omega
    intro v' w2 hown2 hgrow2 _
    have hlt1 := World.ownsRow.lt hown1
    have hbw2 : Below w.heap.size w w2 := ((hbw.trans (hb1.mono hbw.size)).alloc (by have := hbw.size; have := hb1.size; omega) _).grown hgrow2 (by have := hbw.size; have := hb1.size; simp; omega) (fun kk hkk => (hlt1 kk hkk).1)
    have hown3 : OwnF w2 w.heap.size v' (o ++ [sumLo q x]) := by unfold OwnF; rw [List.length_append,List.map_append]; exact hown2
    clear hown2 hgrow2 hown1 hlt1 hb1 hck
    go_wp2
    go_roundw
    case rel => exact ⟨k + 1,by omega,by go_num,by rw [HQ.out],by rw [HO.out,hkp.out]; exact hown3,hbw2⟩
    case measure => simp [intOf]; omega
  ·have hkl : k = l.length := by omega
   have htk : l.take k = l := List.take_of_length_le (by omega)
   rw [htk] at hown
   rw [htk]
   have hgl := gout_len l b
   have HL : Hid ((gout b l).length ≤ l.length) := hgl
   have HD : Hid (growW b l = gout b l ++ keepF (gq b l)) := rfl
   clear hkl htk hgl
   generalize gq b l = q at *
   generalize gout b l = o at *
   cases hne : fne q 0
   ·have hkp : Hid (keepF q = []) := by unfold Hid keepF; rw [hne]; rfl
    go_wp2
    go_ret
    exact ⟨_,rfl,by rw [HD.out,hkp.out,List.append_nil]; exact hown,hbw⟩
   ·have hkp : Hid (keepF q = [q]) := by unfold Hid keepF; rw [hne]; rfl
    go_wp2_with (at_builtin; refine wpList_append_own _ rfl _ _ 143 rfl w.heap.size 66 i0 (.float .f64 0) 1 8 Tryz.underlying143 hi hz0 hz1 hz2 rfl (by decide) _ _ _ rfl (hown.alloc _) ⟨wr.heap.size,0,none⟩ 1 1 [.float .f64 q] rfl rfl ?c1 ?c2 ?c3 ?c4 ?c5 ?_)
    case c1 =>
     intro j u hj
     match j,hj with
     | 0,hj => simp at hj; subst hj; simp [Addr.add]
    case c2 => exact float_oneCell _
    case c3 => have := HL.out; unfold maxLen; omega
    case c4 => have := HL.out; omega
    case c5 => have := hbw.size; simp; omega
    intro v' w2 hown2 hgrow2 _
    have hlt1 := World.ownsRow.lt hown
    have hbw2 : Below w.heap.size w w2 := (hbw.alloc hbw.size _).grown hgrow2 (by have := hbw.size; simp; omega) (fun kk hkk => (hlt1 kk hkk).1)
    have hown3 : OwnF w2 w.heap.size v' (o ++ [q]) := by unfold OwnF; rw [List.length_append,List.map_append]; exact hown2
    clear hown2 hgrow2 hlt1
    go_wp2
    go_ret
    exact ⟨_,rfl,by rw [HD.out,hkp.out]; exact hown3,hbw2⟩
def st1 : Nat → List Nat → List Nat × Nat
 | q,[] => ([],q)
 | q,x :: r => if fne (sumLo q x) 0 then (sumHi q x :: (st1 (sumLo q x) r).1,(st1 (sumLo q x) r).2) else st1 (sumHi q x) r
theorem st1_snoc (l : List Nat) (x : Nat) : ∀ q,st1 q (l ++ [x]) = if fne (sumLo (st1 q l).2 x) 0 then ((st1 q l).1 ++ [sumHi (st1 q l).2 x],sumLo (st1 q l).2 x) else ((st1 q l).1,sumHi (st1 q l).2 x) := by
 induction l with
 | nil => intro q; simp only [List.nil_append,st1]; rfl
 | cons y r ih =>
  intro q
  simp only [List.cons_append,st1]
  split
  ·rw [ih]; split <;> rfl
  ·rw [ih]
def run1 : Nat → List Nat → Prop
 | q,[] => tame q
 | q,x :: r => tame q ∧ tame x ∧ run1 (if fne (sumLo q x) 0 then sumLo q x else sumHi q x) r
theorem run1_at {l : List Nat} : ∀ {q : Nat},run1 q l → ∀ k,k ≤ l.length → tame (st1 q (l.take k)).2 ∧ (k < l.length → tame (l.getD k 0)) := by
 induction l with
 | nil => intro q h k hk; simp at hk; subst hk; exact ⟨h,fun h => by simp at h⟩
 | cons x r ih =>
  intro q h k hk
  cases k with
  | zero => exact ⟨h.1,fun _ => h.2.1⟩
  | succ k =>
   have := ih h.2.2 k (by simp at hk; omega)
   refine ⟨?_,fun hh => this.2 (by simp at hh; omega)⟩
   simp only [List.take_succ_cons,st1]
   split
   ·rename_i hc; rw [if_pos hc] at this; exact this.1
   ·rename_i hc; rw [if_neg hc] at this; exact this.1
theorem st1_len (l : List Nat) : ∀ q,(st1 q l).1.length ≤ l.length := by
 induction l with
 | nil => intro q; simp [st1]
 | cons x r ih =>
  intro q; unfold st1
  split
  ·have := ih (sumLo q x); simp only [List.length_cons]; omega
  ·have := ih (sumHi q x); simp only [List.length_cons]; omega
theorem st1_vals {l : List Nat} : ∀ {q : Nat},run1 q l → ((st1 q l).1.map fval).reverse = (p1 (fval q) (l.map fval)).1 ∧ fval (st1 q l).2 = (p1 (fval q) (l.map fval)).2 ∧ fin (st1 q l).2 ∧ ∀ x,x ∈ (st1 q l).1 → fin x := by
 induction l with
 | nil => intro q h; exact ⟨rfl,rfl,h.1,fun x hx => by cases hx⟩
 | cons x r ih =>
  intro q h
  obtain ⟨s1,_,_,_,_,s6,s7,s8⟩ := sum_fin h.1 h.2.1
  have hi := h.2.2
  simp only [List.map_cons,st1,p1]
  rw [← s8,← s7]
  rw [fne_zero s6] at hi ⊢
  by_cases h0 : fval (sumLo q x) = 0
  ·have hd : decide (fval (sumLo q x) ≠ 0) = false := by simpa using h0
   rw [if_pos h0,hd]
   rw [hd] at hi
   exact ih hi
  ·have hd : decide (fval (sumLo q x) ≠ 0) = true := by simpa using h0
   rw [if_neg h0,hd,if_pos rfl]
   rw [hd,if_pos rfl] at hi
   have := ih hi
   refine ⟨by simp only [List.map_cons,List.reverse_cons,this.1],this.2.1,this.2.2.1,?_⟩
   intro y hy
   rcases List.mem_cons.1 hy with e | e
   ·rw [e]; exact s1
   ·exact this.2.2.2 y e
theorem run1_of (K : Nat) (hK : K + 11 ≤ unitE + 1000) (l : List Nat) : ∀ q,fin q → (∀ x,x ∈ l → fin x) → l.length ≤ 1024 → (fval q).natAbs + absSum (l.map fval) ≤ 2 ^ K * (2048 - l.length) → run1 q l := by
 have hbig : 2 ^ K * 2048 ≤ 2 ^ (unitE + 1000) := by
  have : 2 ^ K * 2 ^ 11 ≤ 2 ^ (unitE + 1000) := by rw [← Nat.pow_add]; exact Nat.pow_le_pow_right (by omega) hK
  exact this
 induction l with
 | nil =>
  intro q hq _ _ hb
  refine ⟨hq,?_⟩
  simp only [List.map_nil,absSum,List.length_nil] at hb
  generalize 2 ^ K = P at *
  generalize 2 ^ (unitE + 1000) = T at *
  omega
 | cons x r ih =>
  intro q hq hl hlen hb
  have hx := hl x (List.mem_cons_self ..)
  simp only [List.map_cons,absSum,List.length_cons] at hb hlen
  have hle : 2 ^ K * (2048 - (r.length + 1)) ≤ 2 ^ K * 2048 := Nat.mul_le_mul_left _ (by omega)
  have tq : tame q := ⟨hq,by generalize 2 ^ (unitE + 1000) = T at *; omega⟩
  have tx : tame x := ⟨hx,by generalize 2 ^ (unitE + 1000) = T at *; omega⟩
  obtain ⟨s1,_,_,_,_,s6,s7,s8⟩ := sum_fin tq tx
  have hr := rest_small (fval q + fval x)
  have e : 2 ^ K * (2048 - r.length) = 2 ^ K * (2048 - (r.length + 1)) + 2 ^ K := by
   rw [show 2048 - r.length = 2048 - (r.length + 1) + 1 by omega,Nat.mul_add,Nat.mul_one]
  have hr' : ∀ y,y ∈ r → fin y := fun y hy => hl y (List.mem_cons_of_mem _ hy)
  refine ⟨tq,tx,?_⟩
  split
  ·refine ih _ s6 hr' (by omega) ?_
   rw [s8,e]
   generalize 2 ^ K * (2048 - (r.length + 1)) = C at *
   generalize 2 ^ K = P at *
   generalize fval q = Q at *
   generalize fval x = X at *
   generalize absSum (r.map fval) = S at *
   clear ih hl s1 s6 s7 s8 tq tx hbig
   omega
  ·refine ih _ s1 hr' (by omega) ?_
   rw [s7,e]
   generalize 2 ^ K * (2048 - (r.length + 1)) = C at *
   generalize 2 ^ K = P at *
   generalize fval q = Q at *
   generalize fval x = X at *
   generalize absSum (r.map fval) = S at *
   clear ih hl s1 s6 s7 s8 tq tx hbig
   omega
def gqS : Nat → List Nat → Nat
 | q,[] => q
 | q,x :: r => gqS (sumHi x q) r
def goutS : Nat → List Nat → List Nat
 | _,[] => []
 | q,x :: r => keepF (sumLo x q) ++ goutS (sumHi x q) r
def growS (b : Nat) (l : List Nat) : List Nat := goutS b l ++ keepF (gqS b l)
def runS : Nat → List Nat → Prop
 | q,[] => tame q
 | q,x :: r => tame q ∧ tame x ∧ runS (sumHi x q) r
theorem gqS_snoc (l : List Nat) (x : Nat) : ∀ q,gqS q (l ++ [x]) = sumHi x (gqS q l) := by
 induction l with
 | nil => intro q; rfl
 | cons y r ih => intro q; exact ih _
theorem goutS_snoc (l : List Nat) (x : Nat) : ∀ q,goutS q (l ++ [x]) = goutS q l ++ keepF (sumLo x (gqS q l)) := by
 induction l with
 | nil => intro q; simp [goutS,gqS]
 | cons y r ih => intro q; simp only [List.cons_append,goutS,gqS,ih,List.append_assoc]
theorem goutS_len (l : List Nat) : ∀ q,(goutS q l).length ≤ l.length := by
 induction l with
 | nil => intro q; simp [goutS]
 | cons x r ih =>
  intro q; unfold goutS
  have := ih (sumHi x q)
  rw [List.length_append,List.length_cons]
  unfold keepF
  split <;> simp <;> omega
theorem runS_at {l : List Nat} : ∀ {q : Nat},runS q l → ∀ k,k ≤ l.length → tame (gqS q (l.take k)) ∧ (k < l.length → tame (l.getD k 0)) := by
 induction l with
 | nil => intro q h k hk; simp at hk; subst hk; exact ⟨h,fun h => by simp at h⟩
 | cons x r ih =>
  intro q h k hk
  cases k with
  | zero => exact ⟨h.1,fun _ => h.2.1⟩
  | succ k =>
   have := ih h.2.2 k (by simp at hk; omega)
   exact ⟨this.1,fun hh => this.2 (by simp at hh; omega)⟩
theorem growS_vals {l : List Nat} : ∀ {q : Nat},runS q l → (growS q l).map fval = growGo (fval q) (l.map fval) ∧ ∀ x,x ∈ growS q l → fin x := by
 induction l with
 | nil =>
  intro q h
  have := keepF_vals h.1
  exact ⟨this.1,this.2⟩
 | cons x r ih =>
  intro q h
  obtain ⟨_,_,_,_,_,s6,s7,s8⟩ := sum_fin h.2.1 h.1
  have := ih h.2.2
  unfold growS at this ⊢
  have hk := keepF_vals s6
  simp only [goutS,gqS,List.map_cons,growGo]
  rw [show fval q + fval x = fval x + fval q by omega,← s8,← s7]
  by_cases h0 : fval (sumLo x q) = 0
  ·rw [if_pos h0] at hk ⊢
   have hk1 : keepF (sumLo x q) = [] := by simpa using hk.1
   rw [hk1,List.nil_append]; exact this
  ·rw [if_neg h0] at hk ⊢
   refine ⟨by rw [List.append_assoc,List.map_append,hk.1,this.1]; rfl,?_⟩
   intro y hy
   rw [List.append_assoc] at hy
   rcases List.mem_append.1 hy with e | e
   ·exact hk.2 y e
   ·exact this.2 y e
theorem runS_of (K : Nat) (hK : K + 11 ≤ unitE + 1000) (l : List Nat) : ∀ q,fin q → (∀ x,x ∈ l → fin x) → l.length ≤ 1024 → (fval q).natAbs + absSum (l.map fval) ≤ 2 ^ K * (2048 - l.length) → runS q l := by
 have hbig : 2 ^ K * 2048 ≤ 2 ^ (unitE + 1000) := by
  have : 2 ^ K * 2 ^ 11 ≤ 2 ^ (unitE + 1000) := by rw [← Nat.pow_add]; exact Nat.pow_le_pow_right (by omega) hK
  exact this
 induction l with
 | nil =>
  intro q hq _ _ hb
  refine ⟨hq,?_⟩
  simp only [List.map_nil,absSum,List.length_nil] at hb
  generalize 2 ^ K = P at *
  generalize 2 ^ (unitE + 1000) = T at *
  omega
 | cons x r ih =>
  intro q hq hl hlen hb
  have hx := hl x (List.mem_cons_self ..)
  simp only [List.map_cons,absSum,List.length_cons] at hb hlen
  have hle : 2 ^ K * (2048 - (r.length + 1)) ≤ 2 ^ K * 2048 := Nat.mul_le_mul_left _ (by omega)
  have tq : tame q := ⟨hq,by generalize 2 ^ (unitE + 1000) = T at *; omega⟩
  have tx : tame x := ⟨hx,by generalize 2 ^ (unitE + 1000) = T at *; omega⟩
  obtain ⟨s1,_,_,_,_,s6,s7,s8⟩ := sum_fin tx tq
  refine ⟨tq,tx,ih _ s1 (fun y hy => hl y (List.mem_cons_of_mem _ hy)) (by omega) ?_⟩
  rw [s7]
  have hr := rest_small (fval x + fval q)
  have e : 2 ^ K * (2048 - r.length) = 2 ^ K * (2048 - (r.length + 1)) + 2 ^ K := by
   rw [show 2048 - r.length = 2048 - (r.length + 1) + 1 by omega,Nat.mul_add,Nat.mul_one]
  rw [e]
  generalize 2 ^ K * (2048 - (r.length + 1)) = C at *
  generalize 2 ^ K = P at *
  generalize fval q = Q at *
  generalize fval x = X at *
  generalize absSum (r.map fval) = S at *
  clear ih hl s1 s6 s7 s8 tq tx hbig
  omega
def neatW (l : List Nat) : List Nat :=
 match l.reverse with
 | [] => []
 | q :: d => growS (st1 q d).2 (st1 q d).1.reverse
def runN (l : List Nat) : Prop :=
 match l.reverse with
 | [] => True
 | q :: d => run1 q d ∧ runS (st1 q d).2 (st1 q d).1.reverse
theorem neatW_vals {l : List Nat} (h : runN l) : (neatW l).map fval = neatI (l.map fval) ∧ ∀ x,x ∈ neatW l → fin x := by
 unfold runN at h
 unfold neatW neatI
 rw [← List.map_reverse]
 generalize l.reverse = d at *
 cases d with
 | nil => exact ⟨rfl,fun x hx => by cases hx⟩
 | cons q d =>
  simp only [List.map_cons] at *
  obtain ⟨a1,a2,a3,a4⟩ := st1_vals h.1
  have := growS_vals h.2
  rw [List.map_reverse,a1,a2] at this
  exact this
theorem runN_of (K : Nat) (hK : K + 11 ≤ unitE + 1000) (l : List Nat) (hf : ∀ x,x ∈ l → fin x) (hn : nov 0 (l.map fval)) (hlen : l.length ≤ 1000) (hb : absSum (l.map fval) ≤ 2 ^ K * 300) : runN l := by
 have hdn := dn_of_nov hn
 rw [← List.map_reverse] at hdn
 have hmem : ∀ y,y ∈ l.reverse ↔ y ∈ l := fun y => List.mem_reverse
 have hl2 : l.reverse.length = l.length := List.length_reverse
 have hab : absSum (l.reverse.map fval) = absSum (l.map fval) := by
  have gen : ∀ a : List Int,absSum a.reverse = absSum a := by
   intro a
   induction a with
   | nil => rfl
   | cons x r ih => rw [List.reverse_cons,absSum_append,ih]; simp only [absSum]; omega
  rw [List.map_reverse,gen]
 unfold runN
 generalize l.reverse = d at *
 cases d with
 | nil => trivial
 | cons q d =>
  simp only [List.map_cons,absSum,List.length_cons] at *
  have hq : fin q := hf q ((hmem q).1 (List.mem_cons_self ..))
  have hd : ∀ y,y ∈ d → fin y := fun y hy => hf y ((hmem y).1 (List.mem_cons_of_mem _ hy))
  have hle : 2 ^ K * 300 ≤ 2 ^ K * (2048 - d.length) := Nat.mul_le_mul_left _ (by omega)
  have r1 := run1_of K hK d q hq hd (by omega) (by omega)
  obtain ⟨a1,a2,a3,a4⟩ := st1_vals r1
  refine ⟨r1,runS_of K hK _ _ a3 (fun x hx => a4 x (by simpa using hx)) (by have := st1_len d q; rw [List.length_reverse]; omega) ?_⟩
  have htop := p1_top (d.map fval) (fval q) hdn.2.1 hdn.2.2
  have hlen1 := st1_len d q
  have hle2 : 2 ^ K * 1024 ≤ 2 ^ K * (2048 - (st1 q d).1.reverse.length) := Nat.mul_le_mul_left _ (by rw [List.length_reverse]; omega)
  rw [List.map_reverse,a1,a2]
  have hT := isum_le (d.map fval)
  refine Nat.le_trans ?_ hle2
  rcases htop with ⟨g1,g2⟩ | ⟨gs,g,g1,g2,g3,g4,g5,g6⟩
  ·rw [g1,g2]; simp only [absSum]
   generalize 2 ^ K = P at *
   omega
  ·rw [g1,absSum_append]; simp only [absSum]
   generalize 2 ^ K = P at *
   generalize absSum gs = A at *
   generalize (p1 (fval q) (d.map fval)).2 = F at *
   generalize isum (d.map fval) = T at *
   omega
end Go.Proofs.YtbagikgpgdlkcaaGreatDoor
