/- Part of the proof. No conditions. -/
import Ieee.Arith
set_option linter.all false
set_option maxHeartbeats 8000000
set_option maxRecDepth 100000
namespace Tvf
theorem two_pow_pos (k : Nat) : 0 < 2 ^ k := Nat.two_pow_pos k
def ulpE (z : Nat) : Nat := z.log2 - 52
def cutE (z e : Nat) : Nat :=
 z / 2 ^ e + if 2 ^ e < 2 * (z % 2 ^ e) ∨ (2 ^ e = 2 * (z % 2 ^ e) ∧ z / 2 ^ e % 2 = 1) then 1 else 0
def rnN (z : Nat) : Nat := cutE z (ulpE z) * 2 ^ ulpE z
theorem ulpE_lo (z e : Nat) (h : ulpE z = e) (he : 1 ≤ e) : 2 ^ (52 + e) ≤ z ∧ z < 2 ^ (53 + e) := by
 unfold ulpE at h
 have hz : z ≠ 0 := by rintro rfl; simp at h; omega
 have h1 := Nat.log2_self_le hz
 have h2 : z < 2 ^ (z.log2 + 1) := Nat.lt_log2_self
 have : z.log2 = 52 + e := by omega
 rw [this] at h1 h2
 exact ⟨h1,by rw [show 53 + e = 52 + e + 1 by omega]; exact h2⟩
theorem ulpE_zero (z : Nat) (h : ulpE z = 0) : z < 2 ^ 53 := by
 unfold ulpE at h
 have h2 : z < 2 ^ (z.log2 + 1) := Nat.lt_log2_self
 exact Nat.lt_of_lt_of_le h2 (Nat.pow_le_pow_right (by omega) (by omega))
theorem ulpE_of (z e : Nat) (h1 : 2 ^ (52 + e) ≤ z) (h2 : z < 2 ^ (53 + e)) : ulpE z = e := by
 unfold ulpE
 have hz : z ≠ 0 := by have := two_pow_pos (52 + e); omega
 have a : 52 + e ≤ z.log2 := (Nat.le_log2 hz).2 h1
 have b : z.log2 < 53 + e := (Nat.log2_lt hz).2 h2
 omega
theorem ulpE_small (z : Nat) (h : z < 2 ^ 53) : ulpE z = 0 := by
 unfold ulpE
 by_cases hz : z = 0
 ·subst hz; simp
 ·have b : z.log2 < 53 := (Nat.log2_lt hz).2 h
  omega
theorem cutE_zero (z : Nat) : cutE z 0 = z := by simp [cutE,Nat.mod_one]
theorem rnN_small (z : Nat) (h : z < 2 ^ 53) : rnN z = z := by
 unfold rnN; rw [ulpE_small z h,cutE_zero]; omega
theorem cutE_bounds (z e : Nat) : z / 2 ^ e ≤ cutE z e ∧ cutE z e ≤ z / 2 ^ e + 1 := by
 unfold cutE; split <;> omega
theorem cutE_ways (z e : Nat) : ∃ L r p : Nat,p = 2 ^ e ∧ L = z / 2 ^ e * 2 ^ e ∧ z = L + r ∧ r < p ∧
  ((cutE z e * 2 ^ e = L ∧ 2 * r ≤ p) ∨ (cutE z e * 2 ^ e = L + p ∧ p ≤ 2 * r)) := by
 have hp := two_pow_pos e
 have hd := Nat.div_add_mod z (2 ^ e)
 have hm := Nat.mod_lt z hp
 refine ⟨z / 2 ^ e * 2 ^ e,z % 2 ^ e,2 ^ e,rfl,rfl,?_,hm,?_⟩
 ·rw [Nat.mul_comm]; omega
 ·unfold cutE
  generalize z % 2 ^ e = r at *
  generalize z / 2 ^ e = l at *
  generalize 2 ^ e = p at *
  split
  · rename_i h; right; rw [Nat.add_mul]; omega
  · rename_i h; left
    have : ¬ p < 2 * r := fun h' => h (Or.inl h')
    simp; omega
theorem cutE_err (z e : Nat) : 2 * (cutE z e * 2 ^ e) ≤ 2 * z + 2 ^ e ∧ 2 * z ≤ 2 * (cutE z e * 2 ^ e) + 2 ^ e := by
 obtain ⟨L,r,p,hp,hL,hz,hr,h⟩ := cutE_ways z e
 rw [← hp] at *
 generalize cutE z e * p = c at *
 omega
def repN (z : Nat) : Prop := ∃ m e : Nat,m ≤ 2 ^ 53 ∧ z = m * 2 ^ e
theorem rep_dvd (z : Nat) (h : repN z) : ∃ q,z = q * 2 ^ ulpE z := by
 obtain ⟨m,e,hm,hz⟩ := h
 by_cases h0 : ulpE z = 0
 ·exact ⟨z,by rw [h0]; omega⟩
 ·obtain ⟨hl,hh⟩ := ulpE_lo z _ rfl (by omega)
  by_cases he : ulpE z ≤ e
  ·refine ⟨m * 2 ^ (e - ulpE z),?_⟩
   rw [Nat.mul_assoc,← Nat.pow_add,show e - ulpE z + ulpE z = e by omega]; exact hz
  ·have h1 : 2 ^ (53 + e) ≤ 2 ^ (52 + ulpE z) := Nat.pow_le_pow_right (by omega) (by omega)
   have h2 : m * 2 ^ e ≤ 2 ^ 53 * 2 ^ e := Nat.mul_le_mul_right _ hm
   rw [← Nat.pow_add] at h2
   have h3 : z = 2 ^ (53 + e) := by omega
   have h4 : ulpE z = e + 1 := by
    apply ulpE_of
    ·rw [h3,show 52 + (e + 1) = 53 + e by omega]; exact Nat.le_refl _
    ·rw [h3]; exact Nat.pow_lt_pow_right (by omega) (by omega)
   exact ⟨2 ^ 52,by rw [h4,← Nat.pow_add,show 52 + (e + 1) = 53 + e by omega]; exact h3⟩
theorem cutE_exact (q e : Nat) : cutE (q * 2 ^ e) e = q := by
 have hp := two_pow_pos e
 unfold cutE
 rw [Nat.mul_mod_left,Nat.mul_div_cancel _ hp,if_neg]
 ·rfl
 ·omega
theorem rnN_rep (z : Nat) (h : repN z) : rnN z = z := by
 obtain ⟨q,hq⟩ := rep_dvd z h
 unfold rnN
 generalize ulpE z = e at *
 subst hq
 rw [cutE_exact]
theorem repN_rnN (z : Nat) : repN (rnN z) := by
 by_cases h0 : ulpE z = 0
 ·have := ulpE_zero z h0
  rw [rnN_small z this]
  exact ⟨z,0,by omega,by omega⟩
 ·obtain ⟨hl,hh⟩ := ulpE_lo z _ rfl (by omega)
  refine ⟨cutE z (ulpE z),ulpE z,?_,rfl⟩
  have hb := (cutE_bounds z (ulpE z)).2
  have : z / 2 ^ ulpE z < 2 ^ 53 := by
   rw [Nat.div_lt_iff_lt_mul (two_pow_pos _),← Nat.pow_add]; exact hh
  omega
theorem rep_between (z w : Nat) (hw : repN w) : w ≤ (z / 2 ^ ulpE z) * 2 ^ ulpE z ∨ (z / 2 ^ ulpE z + 1) * 2 ^ ulpE z ≤ w := by
 by_cases h0 : ulpE z = 0
 ·rw [h0]; simp; omega
 ·obtain ⟨hl,hh⟩ := ulpE_lo z _ rfl (by omega)
  have hp := two_pow_pos (ulpE z)
  have hd := Nat.div_add_mod z (2 ^ ulpE z)
  rw [Nat.mul_comm] at hd
  have hm := Nat.mod_lt z hp
  by_cases h1 : w ≤ (z / 2 ^ ulpE z) * 2 ^ ulpE z
  ·exact Or.inl h1
  ·by_cases h2 : (z / 2 ^ ulpE z + 1) * 2 ^ ulpE z ≤ w
   ·exact Or.inr h2
   ·exfalso
    have ha : 2 ^ 52 ≤ z / 2 ^ ulpE z := by
     rw [Nat.le_div_iff_mul_le hp,← Nat.pow_add]; exact hl
    have hb : z / 2 ^ ulpE z + 1 ≤ 2 ^ 53 := by
     have : z / 2 ^ ulpE z < 2 ^ 53 := by
      rw [Nat.div_lt_iff_lt_mul hp,← Nat.pow_add]; exact hh
     omega
    have ha' := Nat.mul_le_mul_right (2 ^ ulpE z) ha
    have hb' := Nat.mul_le_mul_right (2 ^ ulpE z) hb
    rw [← Nat.pow_add] at ha' hb'
    have hu : ulpE w = ulpE z := ulpE_of w _ (by omega) (by omega)
    obtain ⟨q,hq⟩ := rep_dvd w hw
    rw [hu] at hq
    have c1 : z / 2 ^ ulpE z < q := by
     have : (z / 2 ^ ulpE z) * 2 ^ ulpE z < q * 2 ^ ulpE z := by omega
     exact Nat.lt_of_mul_lt_mul_right this
    have c2 : q < z / 2 ^ ulpE z + 1 := by
     have : q * 2 ^ ulpE z < (z / 2 ^ ulpE z + 1) * 2 ^ ulpE z := by omega
     exact Nat.lt_of_mul_lt_mul_right this
    omega
theorem rnN_near (z w : Nat) (hw : repN w) : (w ≤ z → rnN z ≤ z + (z - w) ∧ z ≤ rnN z + (z - w)) ∧ (z ≤ w → rnN z ≤ z + (w - z) ∧ z ≤ rnN z + (w - z)) := by
 have hb := rep_between z w hw
 unfold rnN
 obtain ⟨L,r,p,hp,hL,hz,hr,h⟩ := cutE_ways z (ulpE z)
 rw [Nat.add_mul,← hp] at hb
 rw [← hp] at *
 rw [← hL] at hb
 generalize cutE z (ulpE z) * p = c at *
 omega
theorem rnN_scale (z k : Nat) : rnN (z * 2 ^ k) = rnN z * 2 ^ k := by
 by_cases h : z < 2 ^ 53
 ·rw [rnN_small z h]; exact rnN_rep _ ⟨z,k,by omega,rfl⟩
 ·have h0 : ulpE z ≠ 0 := fun h' => h (ulpE_zero z h')
  obtain ⟨hl,hh⟩ := ulpE_lo z _ rfl (by omega)
  have hu : ulpE (z * 2 ^ k) = ulpE z + k := by
   apply ulpE_of
   ·rw [← Nat.add_assoc,Nat.pow_add]; exact Nat.mul_le_mul_right _ hl
   ·rw [← Nat.add_assoc,Nat.pow_add]; exact Nat.mul_lt_mul_of_pos_right hh (two_pow_pos k)
  have hc : cutE (z * 2 ^ k) (ulpE z + k) = cutE z (ulpE z) := by
   unfold cutE
   have e1 : z * 2 ^ k / 2 ^ (ulpE z + k) = z / 2 ^ ulpE z := by
    rw [Nat.pow_add]; exact Nat.mul_div_mul_right _ _ (two_pow_pos k)
   have e2 : z * 2 ^ k % 2 ^ (ulpE z + k) = z % 2 ^ ulpE z * 2 ^ k := by
    rw [Nat.pow_add]; exact Nat.mul_mod_mul_right _ _ _
   rw [e1,e2]
   have e3 : 2 ^ (ulpE z + k) < 2 * (z % 2 ^ ulpE z * 2 ^ k) ↔ 2 ^ ulpE z < 2 * (z % 2 ^ ulpE z) := by
    rw [Nat.pow_add,← Nat.mul_assoc]; exact Nat.mul_lt_mul_right (two_pow_pos k)
   have e4 : 2 ^ (ulpE z + k) = 2 * (z % 2 ^ ulpE z * 2 ^ k) ↔ 2 ^ ulpE z = 2 * (z % 2 ^ ulpE z) := by
    rw [Nat.pow_add,← Nat.mul_assoc]
    exact ⟨fun h => Nat.eq_of_mul_eq_mul_right (two_pow_pos k) h,fun h => congrArg (· * 2 ^ k) h⟩
   simp only [e3,e4]
  unfold rnN
  rw [hu,hc,Nat.pow_add,Nat.mul_assoc]
def rn (z : Int) : Int := if z < 0 then -(rnN z.natAbs : Int) else (rnN z.natAbs : Int)
def rep (z : Int) : Prop := repN z.natAbs
theorem rn_neg (z : Int) : rn (-z) = -rn z := by
 unfold rn
 rw [Int.natAbs_neg]
 have h0 : rnN 0 = 0 := rnN_small 0 (by decide)
 by_cases h : z = 0
 ·subst h; simp [h0]
 ·by_cases h1 : z < 0
  ·rw [if_pos h1,if_neg (by omega)]; omega
  ·rw [if_neg h1,if_pos (by omega)]
theorem rep_rn (z : Int) : rep (rn z) := by
 unfold rep rn
 split
 ·rw [Int.natAbs_neg,Int.natAbs_natCast]; exact repN_rnN _
 ·rw [Int.natAbs_natCast]; exact repN_rnN _
theorem rep_neg {z : Int} (h : rep z) : rep (-z) := by unfold rep; rw [Int.natAbs_neg]; exact h
theorem rn_rep {z : Int} (h : rep z) : rn z = z := by
 unfold rn; rw [rnN_rep _ h]; split <;> omega
theorem rep_small {z : Int} (h : z.natAbs ≤ 2 ^ 53) : rep z := ⟨z.natAbs,0,h,by omega⟩
theorem rep_zero : rep 0 := rep_small (by decide)
theorem rn_zero : rn 0 = 0 := rn_rep rep_zero
theorem rn_nonneg {z : Int} (h : 0 ≤ z) : 0 ≤ rn z := by unfold rn; rw [if_neg (by omega)]; omega
theorem rn_near (z w : Int) (hw : rep w) : (rn z - z).natAbs ≤ (w - z).natAbs := by
 have key : ∀ z w : Int,0 ≤ z → rep w → (rn z - z).natAbs ≤ (w - z).natAbs := by
  intro z w hz hw
  obtain ⟨n,rfl⟩ := Int.eq_ofNat_of_zero_le hz
  have e : rn (n : Int) = (rnN n : Int) := by unfold rn; rw [if_neg (by omega),Int.natAbs_natCast]
  by_cases h : 0 ≤ w
  ·obtain ⟨m,rfl⟩ := Int.eq_ofNat_of_zero_le h
   have := rnN_near n m hw
   rw [e]; omega
  ·have := rnN_near n 0 ⟨0,0,by omega,by omega⟩
   rw [e]; omega
 by_cases h : 0 ≤ z
 ·exact key z w h hw
 ·have := key (-z) (-w) (by omega) (rep_neg hw)
  rw [rn_neg] at this
  omega
theorem rn_mono {a b : Int} (h : a ≤ b) : rn a ≤ rn b := by
 by_cases e : a = b
 ·subst e; exact Int.le_refl _
 ·have h1 := rn_near a (rn b) (rep_rn b)
  have h2 := rn_near b (rn a) (rep_rn a)
  omega
theorem rn_scale (z : Int) (k : Nat) : rn (z * 2 ^ k) = rn z * 2 ^ k := by
 have hp : (0 : Int) < 2 ^ k := Int.pow_pos (by omega)
 have hn : ((2 : Int) ^ k).natAbs = 2 ^ k := by rw [Int.natAbs_pow]; rfl
 unfold rn
 rw [Int.natAbs_mul,hn,rnN_scale]
 by_cases h : z < 0
 ·rw [if_pos h,if_pos (Int.mul_neg_of_neg_of_pos h hp)]
  simp [Int.neg_mul]
 ·rw [if_neg h,if_neg (by have := Int.mul_nonneg (show 0 ≤ z by omega) (Int.le_of_lt hp); omega)]
  simp
theorem rep_scale {z : Int} (h : rep z) (k : Nat) : rep (z * 2 ^ k) := by
 have := rep_rn (z * 2 ^ k); rw [rn_scale,rn_rep h] at this; exact this
theorem rep_of_scale {z : Int} {k : Nat} (h : rep (z * 2 ^ k)) : rep z := by
 have h1 := rn_rep h
 rw [rn_scale] at h1
 have hp : (2 : Int) ^ k ≠ 0 := Int.ne_of_gt (Int.pow_pos (by omega))
 have := Int.eq_of_mul_eq_mul_right hp h1
 rw [← this]; exact rep_rn z
theorem rep_of {m : Int} (e : Nat) (h : m.natAbs ≤ 2 ^ 53) : rep (m * 2 ^ e) := rep_scale (rep_small h) e
theorem rep_form {z : Int} (h : rep z) : ∃ (m : Int) (e : Nat),m.natAbs < 2 ^ 53 ∧ z = m * 2 ^ e := by
 obtain ⟨m,e,hm,hz⟩ := h
 have cast : ∀ (a b : Nat),((a * 2 ^ b : Nat) : Int) = (a : Int) * 2 ^ b := fun a b => by simp
 by_cases hh : m < 2 ^ 53
 ·by_cases h0 : 0 ≤ z
  ·exact ⟨m,e,by omega,by rw [← cast]; omega⟩
  ·exact ⟨-m,e,by omega,by rw [Int.neg_mul,← cast]; omega⟩
 ·have : m = 2 ^ 52 * 2 := by omega
  have e2 : z.natAbs = 2 ^ 52 * 2 ^ (e + 1) := by
   have key : ∀ c : Nat,c * 2 * 2 ^ e = c * 2 ^ (e + 1) := fun c => by rw [Nat.pow_succ,Nat.mul_assoc,Nat.mul_comm 2]
   rw [hz,this]; exact key _
  by_cases h0 : 0 ≤ z
  ·exact ⟨((2 ^ 52 : Nat) : Int),e + 1,by decide,by rw [← cast]; omega⟩
  ·exact ⟨-((2 ^ 52 : Nat) : Int),e + 1,by decide,by rw [Int.neg_mul,← cast]; omega⟩
theorem rn_mult {z : Int} (k : Nat) (h : 2 ^ (52 + k) ≤ z.natAbs) : ∃ q : Int,rn z = q * 2 ^ k := by
 have key : ∀ n : Nat,2 ^ (52 + k) ≤ n → ∃ q : Nat,rnN n = q * 2 ^ k := by
  intro n hn
  have hu : k ≤ ulpE n := by
   unfold ulpE
   have hz : n ≠ 0 := by have := two_pow_pos (52 + k); omega
   have := (Nat.le_log2 hz).2 hn
   omega
  refine ⟨cutE n (ulpE n) * 2 ^ (ulpE n - k),?_⟩
  unfold rnN
  rw [Nat.mul_assoc,← Nat.pow_add,show ulpE n - k + k = ulpE n by omega]
 obtain ⟨q,hq⟩ := key _ h
 unfold rn
 rw [hq]
 have cast : ∀ (a b : Nat),((a * 2 ^ b : Nat) : Int) = (a : Int) * 2 ^ b := fun a b => by simp
 rw [cast]
 split
 ·exact ⟨-q,by rw [Int.neg_mul]⟩
 ·exact ⟨q,rfl⟩
theorem rn_err {z : Int} (k : Nat) (h : z.natAbs ≤ 2 ^ (53 + k)) : 2 * (rn z - z).natAbs ≤ 2 ^ k := by
 have key : ∀ n : Nat,n ≤ 2 ^ (53 + k) → 2 * rnN n ≤ 2 * n + 2 ^ k ∧ 2 * n ≤ 2 * rnN n + 2 ^ k := by
  intro n hn
  by_cases he : n = 2 ^ (53 + k)
  ·have : repN n := ⟨2 ^ 53,k,by omega,by rw [he,Nat.pow_add]⟩
   have := two_pow_pos k
   rw [rnN_rep n (by assumption)]; omega
  ·have hu : ulpE n ≤ k := by
    unfold ulpE
    by_cases hz : n = 0
    ·subst hz; simp
    ·have := (Nat.log2_lt hz).2 (show n < 2 ^ (53 + k) by omega)
     omega
   have hp : 2 ^ ulpE n ≤ 2 ^ k := Nat.pow_le_pow_right (by omega) hu
   have := cutE_err n (ulpE n)
   unfold rnN
   omega
 have := key _ h
 unfold rn
 split <;> omega
theorem rn_exact {z : Int} (h : z.natAbs ≤ 2 ^ 53) : rn z = z := rn_rep (rep_small h)
theorem rep_even {z : Int} (h : z.natAbs ≤ 2 ^ 54) (h2 : z % 2 = 0) : rep z := by
 have : z = (z / 2) * 2 ^ 1 := by omega
 rw [this]; exact rep_of 1 (by omega)
theorem sum_less_great_unit {a b : Int} (ha : rep a) (hb : b.natAbs < 2 ^ 53) (h : b.natAbs ≤ a.natAbs) : rep (rn (a + b) - a) := by
 by_cases h1 : (a + b).natAbs ≤ 2 ^ 53
 ·rw [rn_exact h1]; exact rep_small (by omega)
 ·obtain ⟨q,hq⟩ := rn_mult (z := a + b) 1 (by omega)
  have hn := rn_near (a + b) a ha
  by_cases hev : a % 2 = 0
  ·exact rep_even (by omega) (by omega)
  ·have hs : a.natAbs ≤ 2 ^ 53 := by
    obtain ⟨m,e,hm,hz⟩ := rep_form ha
    cases e with
    | zero => omega
    | succ e => rw [Int.pow_succ,← Int.mul_assoc] at hz; omega
   have he := rn_err (z := a + b) 1 (by omega)
   exact rep_small (by omega)
theorem common_unit {a b : Int} (ha : rep a) (hb : rep b) (h : b.natAbs ≤ a.natAbs) : ∃ (x y : Int) (k : Nat),a = x * 2 ^ k ∧ b = y * 2 ^ k ∧ y.natAbs < 2 ^ 53 := by
 obtain ⟨m,i,hm,rfl⟩ := rep_form ha
 obtain ⟨n,j,hn,rfl⟩ := rep_form hb
 have abs : ∀ (x : Int) (k : Nat),(x * 2 ^ k).natAbs = x.natAbs * 2 ^ k := fun x k => by
  rw [Int.natAbs_mul,Int.natAbs_pow]; rfl
 by_cases hij : j ≤ i
 ·refine ⟨m * 2 ^ (i - j),n,j,?_,rfl,hn⟩
  rw [Int.mul_assoc,← Int.pow_add,show i - j + j = i by omega]
 ·refine ⟨m,n * 2 ^ (j - i),i,rfl,?_,?_⟩
  ·rw [Int.mul_assoc,← Int.pow_add,show j - i + i = j by omega]
  ·rw [abs,abs] at h
   rw [abs]
   have h3 : n.natAbs * 2 ^ (j - i) * 2 ^ i ≤ m.natAbs * 2 ^ i := by
    rw [Nat.mul_assoc,← Nat.pow_add,show j - i + i = j by omega]; exact h
   have := Nat.le_of_mul_le_mul_right h3 (two_pow_pos i)
   omega
theorem sum_less_great {a b : Int} (ha : rep a) (hb : rep b) (h : b.natAbs ≤ a.natAbs) : rep (rn (a + b) - a) := by
 obtain ⟨x,y,k,rfl,rfl,hy⟩ := common_unit ha hb h
 rw [← Int.add_mul,rn_scale,← Int.sub_mul]
 have hx : rep x := rep_of_scale ha
 refine rep_scale (sum_less_great_unit hx hy ?_) k
 rw [Int.natAbs_mul,Int.natAbs_mul] at h
 exact Nat.le_of_mul_le_mul_right h (by rw [Int.natAbs_pow]; exact two_pow_pos k)
theorem sum_rest {a b : Int} (ha : rep a) (hb : rep b) : rep (a + b - rn (a + b)) := by
 have key : ∀ a b : Int,rep a → rep b → b.natAbs ≤ a.natAbs → rep (a + b - rn (a + b)) := by
  intro a b ha hb h
  obtain ⟨x,y,k,rfl,rfl,hy⟩ := common_unit ha hb h
  rw [← Int.add_mul,rn_scale,← Int.sub_mul]
  refine rep_scale (rep_small ?_) k
  have := rn_near (x + y) x (rep_of_scale ha)
  omega
 by_cases h : b.natAbs ≤ a.natAbs
 ·exact key a b ha hb h
 ·rw [Int.add_comm]; exact key b a hb ha (by omega)
theorem near_less {a b : Int} (ha : rep a) (hb : rep b) (h1 : (a - b).natAbs ≤ b.natAbs) (h2 : (a - b).natAbs ≤ a.natAbs) : rep (a - b) := by
 by_cases h : b.natAbs ≤ a.natAbs
 ·obtain ⟨x,y,k,rfl,rfl,hy⟩ := common_unit ha hb h
  rw [← Int.sub_mul] at h1 ⊢
  refine rep_scale (rep_small ?_) k
  rw [Int.natAbs_mul,Int.natAbs_mul] at h1
  have := Nat.le_of_mul_le_mul_right h1 (by rw [Int.natAbs_pow]; exact two_pow_pos k)
  omega
 ·obtain ⟨y,x,k,rfl,rfl,hx⟩ := common_unit hb ha (by omega)
  rw [← Int.sub_mul] at h2 ⊢
  refine rep_scale (rep_small ?_) k
  rw [Int.natAbs_mul,Int.natAbs_mul] at h2
  have := Nat.le_of_mul_le_mul_right h2 (by rw [Int.natAbs_pow]; exact two_pow_pos k)
  omega
theorem two_sum {a b : Int} (ha : rep a) (hb : rep b) :
  rn (rn (a - rn (rn (a + b) - rn (rn (a + b) - a))) + rn (b - rn (rn (a + b) - a))) = a + b - rn (a + b) := by
 by_cases h : b.natAbs ≤ a.natAbs
 ·rw [rn_rep (sum_less_great ha hb h)]
  rw [show rn (a + b) - (rn (a + b) - a) = a by omega,rn_rep ha,Int.sub_self,rn_zero,Int.zero_add]
  rw [show b - (rn (a + b) - a) = a + b - rn (a + b) by omega,rn_rep (sum_rest ha hb),rn_rep (sum_rest ha hb)]
 ·have hba : a.natAbs ≤ b.natAbs := by omega
  have hr := sum_rest ha hb
  by_cases hx : (rn (a + b)).natAbs < a.natAbs
  ·
   have hs : (a + b).natAbs < a.natAbs := by
    apply Classical.byContradiction
    intro hc
    have m1 : a.natAbs ≤ (rn (a + b)).natAbs := by
     by_cases h0 : 0 ≤ a + b
     ·have := rn_mono (a := (a.natAbs : Int)) (b := a + b) (by omega)
      have e : rn (a.natAbs : Int) = a.natAbs := by
       rcases Int.natAbs_eq a with e | e
       ·rw [← e]; exact rn_rep ha
       ·have : (a.natAbs : Int) = -a := by omega
        rw [this]; exact rn_rep (rep_neg ha)
      omega
     ·have := rn_mono (a := a + b) (b := -(a.natAbs : Int)) (by omega)
      have e : rn (-(a.natAbs : Int)) = -(a.natAbs : Int) := by
       rcases Int.natAbs_eq a with e | e
       ·rw [← e]; exact rn_rep (rep_neg ha)
       ·have : -(a.natAbs : Int) = a := by omega
        rw [this]; exact rn_rep ha
      omega
    omega
   have hex : rep (a + b) := by
    have := near_less ha (rep_neg hb) (by omega) (by omega)
    rw [show a - -b = a + b by omega] at this; exact this
   rw [rn_rep hex,show a + b - a = b by omega,rn_rep hb,show a + b - b = a by omega,rn_rep ha]
   rw [Int.sub_self,Int.sub_self,rn_zero,Int.sub_self]; exact rn_zero
  ·
   have hxr := rep_rn (a + b)
   generalize hX : rn (a + b) = X at *
   have k1 : rep (rn (X + -a) - X) := sum_less_great hxr (rep_neg ha) (by omega)
   have k2 : rep (X + -a - rn (X + -a)) := sum_rest hxr (rep_neg ha)
   rw [show X + -a = X - a by omega] at k1 k2
   have k1' : rep (X - rn (X - a)) := by have := rep_neg k1; rw [show -(rn (X - a) - X) = X - rn (X - a) by omega] at this; exact this
   rw [rn_rep k1', show a - (X - rn (X - a)) = -(X - a - rn (X - a)) by omega,rn_rep (rep_neg k2)]
   have hcr := rep_rn (X - a)
   have hX1 := rn_near (a + b) a ha
   have hX2 := rn_near (a + b) b hb
   rw [hX] at hX1 hX2
   have hc := rn_near (X - a) b hb
   have hc2 : (b - (X - a)).natAbs = (X - (a + b)).natAbs := by omega
   have hsmall : 8 * (X - (a + b)).natAbs ≤ b.natAbs := by
    by_cases hz : (a + b).natAbs ≤ 2 ^ 53
    ·have : X = a + b := by rw [← hX]; exact rn_exact hz
     omega
    ·obtain ⟨k,hk1,hk2⟩ : ∃ k,2 ^ (53 + k) ≤ (a + b).natAbs ∧ (a + b).natAbs < 2 ^ (53 + (k + 1)) := by
      have hz0 : (a + b).natAbs ≠ 0 := by omega
      have l1 := Nat.log2_self_le hz0
      have l2 : (a + b).natAbs < 2 ^ ((a + b).natAbs.log2 + 1) := Nat.lt_log2_self
      have l3 : 53 ≤ (a + b).natAbs.log2 := (Nat.le_log2 hz0).2 (by omega)
      exact ⟨(a + b).natAbs.log2 - 53,by rw [show 53 + ((a + b).natAbs.log2 - 53) = (a + b).natAbs.log2 by omega]; exact l1,by rw [show 53 + ((a + b).natAbs.log2 - 53 + 1) = (a + b).natAbs.log2 + 1 by omega]; exact l2⟩
     have he := rn_err (z := a + b) (k + 1) (by omega)
     rw [hX] at he
     rw [Nat.pow_add] at hk1
     have : (2 : Nat) ^ (k + 1) = 2 * 2 ^ k := by rw [Nat.pow_succ]; omega
     omega
   have k3 : rep (b - rn (X - a)) := near_less hb hcr (by omega) (by omega)
   rw [rn_rep k3]
   rw [show -(X - a - rn (X - a)) + (b - rn (X - a)) = a + b - X by omega]
   exact rn_rep hr
theorem split_unit {A : Int} (h1 : 2 ^ 52 ≤ A) (h2 : A < 2 ^ 53) :
  ∃ H : Int,rn (rn (134217729 * A) - rn (rn (134217729 * A) - A)) = H * 2 ^ 27 ∧ H.natAbs ≤ 2 ^ 26 ∧ (A - H * 2 ^ 27).natAbs ≤ 2 ^ 26 := by
 obtain ⟨q,hq⟩ := rn_mult (z := 134217729 * A) 27 (by omega)
 have hc : 2 * (rn (134217729 * A) - 134217729 * A).natAbs ≤ 2 ^ 28 := rn_err 28 (by omega)
 have hc' : 134217729 * A < 2 ^ 80 → 2 * (rn (134217729 * A) - 134217729 * A).natAbs ≤ 2 ^ 27 := fun h => rn_err 27 (by omega)
 generalize hC : rn (134217729 * A) = C at *
 have hlo : (2 : Int) ^ 79 ≤ C - A := by
  have hm := rn_mono (a := 134217729 * 2 ^ 52) (b := 134217729 * A) (by omega)
  have e : rn ((134217729 : Int) * 2 ^ 52) = 134217729 * 2 ^ 52 := rn_rep (rep_of 52 (by decide))
  rw [e,hC] at hm
  by_cases h : A < 2 ^ 52 + 2 ^ 20
  ·have := hc' (by omega); omega
  ·omega
 have hhi : C - A ≤ 2 ^ 80 + 2 ^ 27 := by omega
 obtain ⟨t,ht⟩ := rn_mult (z := C - A) 27 (by omega)
 have hd : 2 * (rn (C - A) - (C - A)).natAbs ≤ 2 ^ 27 := by
  by_cases h80 : C - A ≤ 2 ^ 80
  ·exact rn_err 27 (by omega)
  ·
   exfalso
   by_cases h : 134217729 * A < 2 ^ 80
   ·have := hc' h; omega
   ·obtain ⟨q2,hq2⟩ := rn_mult (z := 134217729 * A) 28 (by omega)
    rw [hC] at hq2
    omega
 generalize hT : rn (C - A) = T at *
 have hx : rep (C - T) := by
  rw [hq,ht,← Int.sub_mul]
  exact rep_of 27 (by omega)
 refine ⟨q - t,?_,?_,?_⟩
 ·rw [rn_rep hx,hq,ht]; omega
 ·omega
 ·omega
def hiOf (a : Int) : Int := rn (rn (134217729 * a) - rn (rn (134217729 * a) - a))
theorem hiOf_neg (a : Int) : hiOf (-a) = -hiOf a := by
 unfold hiOf
 rw [show 134217729 * -a = -(134217729 * a) by omega,rn_neg,show -rn (134217729 * a) - -a = -(rn (134217729 * a) - a) by omega,rn_neg,show -rn (134217729 * a) - -rn (rn (134217729 * a) - a) = -(rn (134217729 * a) - rn (rn (134217729 * a) - a)) by omega,rn_neg]
theorem split_norm {A : Int} (h1 : 2 ^ 52 ≤ A.natAbs) (h2 : A.natAbs < 2 ^ 53) :
  ∃ H : Int,hiOf A = H * 2 ^ 27 ∧ H.natAbs ≤ 2 ^ 26 ∧ (A - H * 2 ^ 27).natAbs ≤ 2 ^ 26 := by
 by_cases h : 0 ≤ A
 ·exact split_unit (by omega) (by omega)
 ·obtain ⟨H,e,b1,b2⟩ := split_unit (A := -A) (by omega) (by omega)
  have e' : hiOf (-A) = H * 2 ^ 27 := e
  rw [hiOf_neg] at e'
  exact ⟨-H,by omega,by omega,by omega⟩
theorem mul_natAbs_le {a b : Int} {x y : Nat} (ha : a.natAbs ≤ x) (hb : b.natAbs ≤ y) : (a * b).natAbs ≤ x * y := by
 rw [Int.natAbs_mul]; exact Nat.mul_le_mul ha hb
def prodRest (a b : Int) : Int :=
 rn (rn ((a - hiOf a) * (b - hiOf b)) - rn (rn (rn (rn (a * b) - rn (hiOf a * hiOf b)) - rn ((a - hiOf a) * hiOf b)) - rn (hiOf a * (b - hiOf b))))
theorem prodRest_unit {A B : Int} (ha1 : 2 ^ 52 ≤ A.natAbs) (ha2 : A.natAbs < 2 ^ 53) (hb1 : 2 ^ 52 ≤ B.natAbs) (hb2 : B.natAbs < 2 ^ 53) :
  prodRest A B = A * B - rn (A * B) := by
 obtain ⟨H,hH,bH,bL⟩ := split_norm ha1 ha2
 obtain ⟨G,hG,bG,bM⟩ := split_norm hb1 hb2
 unfold prodRest
 rw [hH,hG]
 generalize hL : A - H * 2 ^ 27 = L at *
 generalize hM : B - G * 2 ^ 27 = M at *
 have eAB : A * B = (H * G) * 2 ^ 54 + (L * G) * 2 ^ 27 + (H * M) * 2 ^ 27 + L * M := by
  rw [show A = H * 2 ^ 27 + L by omega,show B = G * 2 ^ 27 + M by omega]; grind
 have b1 : (H * G).natAbs ≤ 2 ^ 52 := by have := mul_natAbs_le bH bG; omega
 have b2 : (L * G).natAbs ≤ 2 ^ 52 := by have := mul_natAbs_le bL bG; omega
 have b3 : (H * M).natAbs ≤ 2 ^ 52 := by have := mul_natAbs_le bH bM; omega
 have b4 : (L * M).natAbs ≤ 2 ^ 52 := by have := mul_natAbs_le bL bM; omega
 have c1 : 2 ^ 104 ≤ (A * B).natAbs := by rw [Int.natAbs_mul]; have := Nat.mul_le_mul ha1 hb1; omega
 have c2 : (A * B).natAbs ≤ 2 ^ 106 := by
  rw [Int.natAbs_mul]; have := Nat.mul_le_mul (Nat.le_of_lt ha2) (Nat.le_of_lt hb2); omega
 obtain ⟨q,hq⟩ := rn_mult (z := A * B) 52 (by omega)
 have he := rn_err (z := A * B) 53 (by omega)
 rw [show H * 2 ^ 27 * (G * 2 ^ 27) = (H * G) * 2 ^ 54 by grind,show L * (G * 2 ^ 27) = (L * G) * 2 ^ 27 by grind,show H * 2 ^ 27 * M = (H * M) * 2 ^ 27 by grind]
 generalize rn (A * B) = X at *
 generalize A * B = P at *
 generalize H * G = p1 at *
 generalize L * G = p2 at *
 generalize H * M = p3 at *
 generalize L * M = p4 at *
 rw [rn_rep (rep_of (m := p1) 54 (by omega)),rn_rep (rep_of (m := p2) 27 (by omega)),rn_rep (rep_of (m := p3) 27 (by omega)),rn_rep (rep_small (z := p4) (by omega))]
 have r1 : rep (X - p1 * 2 ^ 54) := by
  rw [show X - p1 * 2 ^ 54 = (q - p1 * 4) * 2 ^ 52 by omega]; exact rep_of 52 (by omega)
 rw [rn_rep r1]
 have r2 : rep (X - p1 * 2 ^ 54 - p2 * 2 ^ 27) := by
  rw [show X - p1 * 2 ^ 54 - p2 * 2 ^ 27 = (q * 2 ^ 25 - p1 * 2 ^ 27 - p2) * 2 ^ 27 by omega]; exact rep_of 27 (by omega)
 rw [rn_rep r2]
 have r3 : rep (X - p1 * 2 ^ 54 - p2 * 2 ^ 27 - p3 * 2 ^ 27) := rep_small (by omega)
 rw [rn_rep r3]
 rw [show p4 - (X - p1 * 2 ^ 54 - p2 * 2 ^ 27 - p3 * 2 ^ 27) = P - X by omega]
 exact rn_rep (rep_small (by omega))
theorem rep_norm {z : Int} (h : rep z) (hz : 2 ^ 52 ≤ z.natAbs) : ∃ (A : Int) (k : Nat),z = A * 2 ^ k ∧ 2 ^ 52 ≤ A.natAbs ∧ A.natAbs < 2 ^ 53 := by
 have hz0 : z.natAbs ≠ 0 := by omega
 have l1 := Nat.log2_self_le hz0
 have l2 : z.natAbs < 2 ^ (z.natAbs.log2 + 1) := Nat.lt_log2_self
 have l3 : 52 ≤ z.natAbs.log2 := (Nat.le_log2 hz0).2 (by omega)
 obtain ⟨q,hq⟩ := rep_dvd _ h
 have hu : ulpE z.natAbs = z.natAbs.log2 - 52 := rfl
 have hq1 : 2 ^ 52 ≤ q := by
  have : 2 ^ 52 * 2 ^ ulpE z.natAbs ≤ q * 2 ^ ulpE z.natAbs := by
   rw [← hq,← Nat.pow_add,hu,show 52 + (z.natAbs.log2 - 52) = z.natAbs.log2 by omega]; exact l1
  exact Nat.le_of_mul_le_mul_right this (two_pow_pos _)
 have hq2 : q < 2 ^ 53 := by
  have : q * 2 ^ ulpE z.natAbs < 2 ^ 53 * 2 ^ ulpE z.natAbs := by
   rw [← hq,← Nat.pow_add,hu,show 53 + (z.natAbs.log2 - 52) = z.natAbs.log2 + 1 by omega]; exact l2
  exact Nat.lt_of_mul_lt_mul_right this
 have cast : ∀ (a b : Nat),((a * 2 ^ b : Nat) : Int) = (a : Int) * 2 ^ b := fun a b => by simp
 have hq3 : (z.natAbs : Int) = (q : Int) * 2 ^ ulpE z.natAbs := by rw [← cast,← hq]
 generalize ulpE z.natAbs = k at *
 by_cases h0 : 0 ≤ z
 ·exact ⟨q,k,by omega,by omega,by omega⟩
 ·exact ⟨-q,k,by rw [Int.neg_mul]; omega,by omega,by omega⟩
open Ieee
abbrev D := Ieee.double
def mg (r : Nat) : Nat := if r < 2 ^ 52 then r else (2 ^ 52 + r % 2 ^ 52) * 2 ^ (r / 2 ^ 52 - 1)
def fin (x : Nat) : Prop := x < 2 ^ 64 ∧ x % 2 ^ 63 < 2047 * 2 ^ 52
def fneg (x : Nat) : Bool := x / 2 ^ 63 % 2 == 1
def fval (x : Nat) : Int := if fneg x then -(mg (x % 2 ^ 63) : Int) else (mg (x % 2 ^ 63) : Int)
theorem leastPlace_d : D.leastPlace = -1074 := by decide
theorem binade_d : D.binade = 2 ^ 52 := by decide
theorem infRung_d : D.infRung = 2047 * 2 ^ 52 := by decide
theorem signWeight_d : D.signWeight = 2 ^ 63 := by decide
def unitE : Nat := 1074
def top : Nat := 2098
theorem unitE_eq : unitE = 1074 := rfl
theorem top_eq : top = 2098 := rfl
def sgn (s : Bool) (n : Nat) : Int := if s then -(n : Int) else (n : Int)
theorem signed_eq (s : Bool) (m k : Nat) : signed s m k = sgn s (m * 2 ^ k) := by
 unfold signed sgn; rw [Nat.shiftLeft_eq]
theorem fval_eq (x : Nat) : fval x = sgn (fneg x) (mg (x % 2 ^ 63)) := rfl
theorem read_fin {x : Nat} (h : fin x) : ∃ m k : Nat,D.read x = .number (fneg x) m (-1074 + (k : Int)) ∧ mg (x % 2 ^ 63) = m * 2 ^ k ∧ m < 2 ^ 53 := by
 unfold Format.read
 rw [signWeight_d,binade_d,infRung_d,leastPlace_d]
 by_cases h1 : x % 2 ^ 63 < 2 ^ 52
 ·refine ⟨x % 2 ^ 63,0,?_,?_,by omega⟩
  ·simp only [h1,if_true]; rfl
  ·unfold mg; rw [if_pos h1]; omega
 ·refine ⟨2 ^ 52 + x % 2 ^ 63 % 2 ^ 52,x % 2 ^ 63 / 2 ^ 52 - 1,?_,?_,by omega⟩
  ·simp only [h1,if_false,h.2,if_true]; rfl
  ·unfold mg; rw [if_neg h1]
theorem mg_rep (r : Nat) : repN (mg r) := by
 unfold mg; split
 ·exact ⟨r,0,by omega,by omega⟩
 ·exact ⟨_,_,by omega,rfl⟩
theorem rep_fval (x : Nat) : rep (fval x) := by
 unfold rep fval
 split
 ·rw [Int.natAbs_neg,Int.natAbs_natCast]; exact mg_rep _
 ·rw [Int.natAbs_natCast]; exact mg_rep _
theorem mg_scale (e c : Nat) (h : c ≤ 2 ^ 53) (hc : e = 0 ∨ 2 ^ 52 ≤ c) : mg (e * 2 ^ 52 + c) = c * 2 ^ e := by
 unfold mg
 by_cases h1 : e * 2 ^ 52 + c < 2 ^ 52
 ·rw [if_pos h1]
  have : e = 0 := by omega
  subst this; omega
 ·rw [if_neg h1]
  by_cases h2 : c < 2 ^ 52
  ·have : e = 0 := by omega
   omega
  ·by_cases h3 : c = 2 ^ 53
   ·have d1 : (e * 2 ^ 52 + c) % 2 ^ 52 = 0 := by omega
    have d2 : (e * 2 ^ 52 + c) / 2 ^ 52 - 1 = e + 1 := by omega
    rw [d1,d2,h3,Nat.pow_succ 2 e]; omega
   ·have d1 : (e * 2 ^ 52 + c) % 2 ^ 52 = c - 2 ^ 52 := by omega
    have d2 : (e * 2 ^ 52 + c) / 2 ^ 52 - 1 = e := by omega
    rw [d1,d2,show 2 ^ 52 + (c - 2 ^ 52) = c by omega]
theorem cut_even (s : Bool) (n drop : Nat) : Toward.even.cut s n drop = cutE n drop := by
 have key : ∀ g : Nat,g = 2 ^ drop → n / g + (decide (g < 2 * (n % g)) || (g == 2 * (n % g) && n / g % 2 == 1)).toNat = cutE n drop := by
  intro g hg; subst hg
  unfold cutE
  by_cases a : 2 ^ drop < 2 * (n % 2 ^ drop)
  ·simp [a]
  ·by_cases b : 2 ^ drop = 2 * (n % 2 ^ drop) ∧ n / 2 ^ drop % 2 = 1
   ·rw [if_pos (Or.inr b)]
    have b1 : (2 ^ drop == 2 * (n % 2 ^ drop)) = true := by simpa using b.1
    have b2 : (n / 2 ^ drop % 2 == 1) = true := by simpa using b.2
    rw [b1,b2]; simp
   ·rw [if_neg (by intro h; rcases h with h | h; exact a h; exact b h)]
    have : (decide (2 ^ drop < 2 * (n % 2 ^ drop)) || (2 ^ drop == 2 * (n % 2 ^ drop) && n / 2 ^ drop % 2 == 1)) = false := by
     rw [Bool.or_eq_false_iff,Bool.and_eq_false_iff]
     refine ⟨by simpa using a,?_⟩
     by_cases c : 2 ^ drop = 2 * (n % 2 ^ drop)
     ·right; apply Bool.eq_false_iff.2; intro d; exact b ⟨c,by simpa using d⟩
     ·left; simpa using c
    rw [this]; rfl
 unfold Toward.cut
 simp only [Nat.one_shiftLeft]
 by_cases h : drop ≤ n.log2 + 2
 ·rw [Nat.min_eq_left h]; exact key _ rfl
 ·rw [Nat.min_eq_right (by omega)]
  have l2 : n < 2 ^ (n.log2 + 1) := Nat.lt_log2_self
  have p1 : 2 ^ (n.log2 + 2) = 2 * 2 ^ (n.log2 + 1) := by rw [Nat.pow_succ]; omega
  have p2 : 2 ^ (n.log2 + 2) ≤ 2 ^ drop := Nat.pow_le_pow_right (by omega) (by omega)
  unfold cutE
  have q1 : n % 2 ^ (n.log2 + 2) = n := Nat.mod_eq_of_lt (by omega)
  have q2 : n % 2 ^ drop = n := Nat.mod_eq_of_lt (by omega)
  have q3 : n / 2 ^ (n.log2 + 2) = 0 := Nat.div_eq_of_lt (by omega)
  have q4 : n / 2 ^ drop = 0 := Nat.div_eq_of_lt (by omega)
  rw [q1,q2,q3,q4,if_neg (by omega)]
  generalize 2 ^ (n.log2 + 2) = g at *
  have r1 : decide (g < 2 * n) = false := by simp; omega
  have r2 : (g == 2 * n) = false := by simp; omega
  rw [r1,r2]; rfl
theorem fneg_word (s : Bool) (r : Nat) (h : r < 2 ^ 63) : fneg (D.word s r) = s ∧ D.word s r % 2 ^ 63 = r ∧ D.word s r < 2 ^ 64 := by
 unfold Format.word fneg
 rw [signWeight_d]
 cases s
 ·simp; omega
 ·simp; omega
theorem nearest_val (s : Bool) (mag Z a b : Nat) (place : Int) (hz : mag * 2 ^ a = Z * 2 ^ b) (hp : place = -1074 + (a : Int) - (b : Int)) (hb : rnN Z < 2 ^ top) :
  fin (D.nearest s mag place) ∧ fval (D.nearest s mag place) = sgn s (rnN Z) ∧ fneg (D.nearest s mag place) = s := by
 unfold Format.nearest
 by_cases h0 : mag = 0
 ·have hZ : Z = 0 := by
   rw [h0,Nat.zero_mul] at hz
   have := Nat.mul_eq_zero.1 hz.symm
   have := two_pow_pos b
   omega
  rw [if_pos h0]
  have := fneg_word s 0 (by decide)
  refine ⟨⟨this.2.2,by rw [this.2.1]; decide⟩,?_,this.1⟩
  rw [fval_eq,this.1,this.2.1,hZ,rnN_small 0 (by decide)]; rfl
 ·rw [if_neg h0,leastPlace_d,binade_d,infRung_d]
  have hZ : Z ≠ 0 := by
   intro e; rw [e,Nat.zero_mul] at hz
   have := Nat.mul_eq_zero.1 hz
   have := two_pow_pos a
   omega
  have hlog : mag.log2 + a = Z.log2 + b := by
   have m1 := Nat.log2_self_le h0
   have m2 : mag < 2 ^ (mag.log2 + 1) := Nat.lt_log2_self
   have z1 := Nat.log2_self_le hZ
   have z2 : Z < 2 ^ (Z.log2 + 1) := Nat.lt_log2_self
   have m1' := Nat.mul_le_mul_right (2 ^ a) m1
   have m2' := Nat.mul_lt_mul_of_pos_right m2 (two_pow_pos a)
   have z1' := Nat.mul_le_mul_right (2 ^ b) z1
   have z2' := Nat.mul_lt_mul_of_pos_right z2 (two_pow_pos b)
   rw [← Nat.pow_add] at m1' m2' z1' z2'
   have c1 : mag.log2 + a < Z.log2 + 1 + b := (Nat.pow_lt_pow_iff_right (by omega : 1 < 2)).1 (by omega)
   have c2 : Z.log2 + b < mag.log2 + 1 + a := (Nat.pow_lt_pow_iff_right (by omega : 1 < 2)).1 (by omega)
   omega
  have hu : ulpE Z = Z.log2 - 52 := rfl
  have hlast : max (place + (mag.log2 : Int) - (D.fractionBits : Int)) (-1074) = -1074 + (ulpE Z : Int) := by
   have : (D.fractionBits : Int) = 52 := rfl
   rw [this,hu]; omega
  simp only [hlast]
  rw [show (-1074 + (ulpE Z : Int) - -1074).toNat = ulpE Z by omega,cut_even,Nat.shiftLeft_eq]
  have hcut : cutE (mag * 2 ^ (place - (-1074 + (ulpE Z : Int))).toNat) ((-1074 + (ulpE Z : Int)) - place).toNat = cutE Z (ulpE Z) := by
   have gen : ∀ (n m d e c f : Nat),n * 2 ^ c = m * 2 ^ f → d + c = e + f → cutE n d = cutE m e := by
    intro n m d e c f h1 h2
    have sc : ∀ x y k : Nat,cutE (x * 2 ^ k) (y + k) = cutE x y := by
     intro x y k
     unfold cutE
     have e1 : x * 2 ^ k / 2 ^ (y + k) = x / 2 ^ y := by
      rw [Nat.pow_add]; exact Nat.mul_div_mul_right _ _ (two_pow_pos k)
     have e2 : x * 2 ^ k % 2 ^ (y + k) = x % 2 ^ y * 2 ^ k := by
      rw [Nat.pow_add]; exact Nat.mul_mod_mul_right _ _ _
     rw [e1,e2]
     have e3 : 2 ^ (y + k) < 2 * (x % 2 ^ y * 2 ^ k) ↔ 2 ^ y < 2 * (x % 2 ^ y) := by
      rw [Nat.pow_add,← Nat.mul_assoc]; exact Nat.mul_lt_mul_right (two_pow_pos k)
     have e4 : 2 ^ (y + k) = 2 * (x % 2 ^ y * 2 ^ k) ↔ 2 ^ y = 2 * (x % 2 ^ y) := by
      rw [Nat.pow_add,← Nat.mul_assoc]
      exact ⟨fun h => Nat.eq_of_mul_eq_mul_right (two_pow_pos k) h,fun h => congrArg (· * 2 ^ k) h⟩
     simp only [e3,e4]
    rw [← sc n d c,h1,h2,sc]
   refine gen _ _ _ _ (ulpE Z + b) (b + ((-1074 + (ulpE Z : Int)) - place).toNat) ?_ (by omega)
   rw [Nat.mul_assoc,← Nat.pow_add,show (place - (-1074 + (ulpE Z : Int))).toNat + (ulpE Z + b) = a + ((-1074 + (ulpE Z : Int)) - place).toNat by omega,Nat.pow_add,← Nat.mul_assoc,hz,Nat.mul_assoc,← Nat.pow_add]
  rw [hcut]
  have hbd : cutE Z (ulpE Z) ≤ 2 ^ 53 ∧ (ulpE Z = 0 ∨ 2 ^ 52 ≤ cutE Z (ulpE Z)) := by
   have cb := cutE_bounds Z (ulpE Z)
   by_cases e0 : ulpE Z = 0
   ·have := ulpE_zero Z e0
    rw [e0,cutE_zero]; omega
   ·obtain ⟨hl,hh⟩ := ulpE_lo Z _ rfl (by omega)
    have d1 : 2 ^ 52 ≤ Z / 2 ^ ulpE Z := by
     rw [Nat.le_div_iff_mul_le (two_pow_pos _),← Nat.pow_add]; exact hl
    have d2 : Z / 2 ^ ulpE Z < 2 ^ 53 := by
     rw [Nat.div_lt_iff_lt_mul (two_pow_pos _),← Nat.pow_add]; exact hh
    omega
  have hrung : ulpE Z * 2 ^ 52 + cutE Z (ulpE Z) < 2047 * 2 ^ 52 := by
   unfold rnN at hb
   generalize cutE Z (ulpE Z) = c at *
   generalize ulpE Z = e at *
   apply Classical.byContradiction
   intro hc
   have he : 2045 ≤ e := by omega
   by_cases e1 : e = 2045
   ·have : c = 2 ^ 53 := by omega
    rw [this,← Nat.pow_add] at hb
    exact absurd hb (Nat.not_lt.2 (Nat.pow_le_pow_right (by omega) (by have := top_eq; omega)))
   ·have : 2 ^ 52 ≤ c := by omega
    have p1 := Nat.mul_le_mul_right (2 ^ e) this
    rw [← Nat.pow_add] at p1
    exact absurd hb (Nat.not_lt.2 (Nat.le_trans (Nat.pow_le_pow_right (by omega) (by have := top_eq; omega)) p1))
  rw [Nat.min_eq_left (Nat.le_of_lt hrung)]
  have hw := fneg_word s (ulpE Z * 2 ^ 52 + cutE Z (ulpE Z)) (by omega)
  refine ⟨⟨hw.2.2,by rw [hw.2.1]; exact hrung⟩,?_,hw.1⟩
  rw [fval_eq,hw.1,hw.2.1,mg_scale _ _ hbd.1 hbd.2]; rfl
theorem natAbs_two_pow (k : Nat) : ((2 : Int) ^ k).natAbs = 2 ^ k := by rw [Int.natAbs_pow]; rfl
theorem sgn_rnN (z : Int) (s : Bool) (h : z ≠ 0 → s = decide (z < 0)) : sgn s (rnN z.natAbs) = rn z := by
 by_cases h0 : z = 0
 ·subst h0
  have : rnN (Int.natAbs 0) = 0 := rnN_small 0 (by decide)
  rw [this,rn_zero]; unfold sgn; split <;> rfl
 ·unfold rn sgn
  rw [h h0]
  by_cases h1 : z < 0
  ·rw [if_pos (by simpa using h1),if_pos h1]
  ·rw [if_neg (by simpa using h1),if_neg h1]
theorem natAbs_rn (z : Int) : (rn z).natAbs = rnN z.natAbs := by
 unfold rn; split <;> simp
theorem sgn_mul_pow (s : Bool) (m k : Nat) : sgn s (m * 2 ^ k) = sgn s m * 2 ^ k := by
 unfold sgn; split <;> simp [Int.neg_mul]
theorem sum_data (s t : Bool) (m n i j : Nat) :
  ∃ (g : Bool) (T : Int) (c : Nat),Datum.sum (.number s m (-1074 + (i : Int))) (.number t n (-1074 + (j : Int))) = some (.number g T.natAbs (-1074 + (c : Int))) ∧
   T * 2 ^ c = sgn s (m * 2 ^ i) + sgn t (n * 2 ^ j) ∧ (T ≠ 0 → g = decide (T < 0)) ∧ (T = 0 → g = (s && t)) := by
 have hm : min (-1074 + (i : Int)) (-1074 + (j : Int)) = -1074 + ((min i j : Nat) : Int) := by omega
 unfold Datum.sum
 simp only [hm]
 rw [show (-1074 + (i : Int) - (-1074 + ((min i j : Nat) : Int))).toNat = i - min i j by omega,show (-1074 + (j : Int) - (-1074 + ((min i j : Nat) : Int))).toNat = j - min i j by omega,signed_eq,signed_eq]
 refine ⟨_,_,min i j,rfl,?_,?_,?_⟩
 ·rw [Int.add_mul,← sgn_mul_pow,← sgn_mul_pow,Nat.mul_assoc,Nat.mul_assoc,← Nat.pow_add,← Nat.pow_add,show i - min i j + min i j = i by omega,show j - min i j + min i j = j by omega]
 ·intro h; rw [if_neg h]
 ·intro h; rw [if_pos h]
def inReach (z : Int) : Prop := (rn z).natAbs < 2 ^ top
theorem write_num (g : Bool) (T z : Int) (c : Nat) (hz : T * 2 ^ c = z) (hg : T ≠ 0 → g = decide (T < 0)) (hr : inReach z) :
  fin (D.write (.number g T.natAbs (-1074 + (c : Int)))) ∧ fval (D.write (.number g T.natAbs (-1074 + (c : Int)))) = rn z := by
 have hp : (0 : Int) < 2 ^ c := Int.pow_pos (by omega)
 have hn : ((2 : Int) ^ c).natAbs = 2 ^ c := by rw [Int.natAbs_pow]; rfl
 have hab : T.natAbs * 2 ^ c = z.natAbs * 2 ^ 0 := by rw [← hz,Int.natAbs_mul,hn]; omega
 have h := nearest_val g T.natAbs z.natAbs c 0 (-1074 + (c : Int)) hab (by omega) (by rw [← natAbs_rn]; exact hr)
 refine ⟨h.1,?_⟩
 show fval (D.nearest _ _ _) = _
 rw [h.2.1]
 refine sgn_rnN z g ?_
 intro hz0
 have hT : T ≠ 0 := by rintro rfl; rw [Int.zero_mul] at hz; exact hz0 hz.symm
 rw [hg hT]
 by_cases h1 : T < 0
 ·have : z < 0 := by rw [← hz]; exact Int.mul_neg_of_neg_of_pos h1 hp
  simp [h1,this]
 ·have : ¬ z < 0 := by rw [← hz]; have := Int.mul_nonneg (show 0 ≤ T by omega) (Int.le_of_lt hp); omega
  simp [h1,this]
theorem add_val {x y : Nat} (hx : fin x) (hy : fin y) (hr : inReach (fval x + fval y)) :
  ∃ r,D.add x y = some r ∧ fin r ∧ fval r = rn (fval x + fval y) := by
 obtain ⟨m,i,e1,v1,_⟩ := read_fin hx
 obtain ⟨n,j,e2,v2,_⟩ := read_fin hy
 unfold Format.add
 rw [e1,e2]
 obtain ⟨g,T,c,e,hv,hg,_⟩ := sum_data (fneg x) (fneg y) m n i j
 rw [← v1,← v2,← fval_eq,← fval_eq] at hv
 rw [e]
 exact ⟨_,rfl,write_num g T _ c hv hg hr⟩
theorem sub_val {x y : Nat} (hx : fin x) (hy : fin y) (hr : inReach (fval x - fval y)) :
  ∃ r,D.sub x y = some r ∧ fin r ∧ fval r = rn (fval x - fval y) := by
 obtain ⟨m,i,e1,v1,_⟩ := read_fin hx
 obtain ⟨n,j,e2,v2,_⟩ := read_fin hy
 unfold Format.sub
 rw [e1,e2]
 obtain ⟨g,T,c,e,hv,hg,_⟩ := sum_data (fneg x) (!fneg y) m n i j
 have hneg : sgn (!fneg y) (n * 2 ^ j) = -fval y := by
  rw [fval_eq,v2]; unfold sgn; cases fneg y <;> simp
 rw [← v1,← fval_eq,hneg] at hv
 have e' : Datum.sum (.number (fneg x) m (-1074 + (i : Int))) (Datum.opposite (.number (fneg y) n (-1074 + (j : Int)))) = some (.number g T.natAbs (-1074 + (c : Int))) := e
 rw [e']
 refine ⟨_,rfl,write_num g T _ c (by omega) hg hr⟩
theorem mul_val {x y : Nat} (hx : fin x) (hy : fin y) {Z : Int} (hz : fval x * fval y = Z * 2 ^ unitE) (hr : inReach Z) :
  ∃ r,D.mul x y = some r ∧ fin r ∧ fval r = rn Z := by
 obtain ⟨m,i,e1,v1,_⟩ := read_fin hx
 obtain ⟨n,j,e2,v2,_⟩ := read_fin hy
 unfold Format.mul
 rw [e1,e2]
 refine ⟨_,rfl,?_⟩
 show fin (D.nearest (fneg x ^^ fneg y) (m * n) (-1074 + (i : Int) + (-1074 + (j : Int)))) ∧ fval (D.nearest (fneg x ^^ fneg y) (m * n) (-1074 + (i : Int) + (-1074 + (j : Int)))) = _
 have hp : (0 : Int) < 2 ^ unitE := Int.pow_pos (by omega)
 have hn : ((2 : Int) ^ unitE).natAbs = 2 ^ unitE := natAbs_two_pow _
 have habs : ∀ w : Nat,(fval w).natAbs = mg (w % 2 ^ 63) := by
  intro w; unfold fval; split <;> simp
 have hab : m * n * 2 ^ (i + j) = Z.natAbs * 2 ^ unitE := by
  have := congrArg Int.natAbs hz
  rw [Int.natAbs_mul,Int.natAbs_mul,hn,habs,habs,v1,v2] at this
  rw [← this,Nat.pow_add,Nat.mul_assoc,Nat.mul_assoc,Nat.mul_left_comm n]
 have h := nearest_val (fneg x ^^ fneg y) (m * n) Z.natAbs (i + j) unitE (-1074 + (i : Int) + (-1074 + (j : Int))) hab (by have := unitE_eq; omega) (by rw [← natAbs_rn]; exact hr)
 refine ⟨h.1,?_⟩
 rw [h.2.1]
 refine sgn_rnN Z _ ?_
 intro hZ
 have hxy : fval x * fval y ≠ 0 := by
  rw [hz]; exact Int.mul_ne_zero hZ (Int.ne_of_gt hp)
 have hx0 : fval x ≠ 0 := fun e => hxy (by rw [e,Int.zero_mul])
 have hy0 : fval y ≠ 0 := fun e => hxy (by rw [e,Int.mul_zero])
 have sg : ∀ w : Nat,fval w ≠ 0 → fneg w = decide (fval w < 0) := by
  intro w hw
  have : fval w = sgn (fneg w) (mg (w % 2 ^ 63)) := rfl
  rw [this] at hw ⊢
  unfold sgn at hw ⊢
  cases h : fneg w <;> simp [h] at hw ⊢ <;> omega
 rw [sg x hx0,sg y hy0]
 have hneg : (Z < 0) ↔ (fval x * fval y < 0) := by
  rw [hz]
  constructor
  ·intro h; exact Int.mul_neg_of_neg_of_pos h hp
  ·intro h
   apply Classical.byContradiction
   intro hc
   have := Int.mul_nonneg (show 0 ≤ Z by omega) (Int.le_of_lt hp); omega
 by_cases a : fval x < 0 <;> by_cases b : fval y < 0
 ·have : ¬ fval x * fval y < 0 := by have := Int.mul_pos_of_neg_of_neg a b; omega
  simp [a,b,hneg,this]
 ·have : fval x * fval y < 0 := Int.mul_neg_of_neg_of_pos a (by omega)
  simp [a,b,hneg,this]
 ·have : fval x * fval y < 0 := Int.mul_neg_of_pos_of_neg (by omega) b
  simp [a,b,hneg,this]
 ·have : ¬ fval x * fval y < 0 := by have := Int.mul_pos (show 0 < fval x by omega) (show 0 < fval y by omega); omega
  simp [a,b,hneg,this]
theorem order_val {x y : Nat} (hx : fin x) (hy : fin y) : D.order x y = some (compare (fval x) (fval y)) := by
 obtain ⟨m,i,e1,v1,_⟩ := read_fin hx
 obtain ⟨n,j,e2,v2,_⟩ := read_fin hy
 unfold Format.order
 rw [e1,e2]
 unfold Datum.order
 have hm : min (-1074 + (i : Int)) (-1074 + (j : Int)) = -1074 + ((min i j : Nat) : Int) := by omega
 simp only [hm]
 rw [show (-1074 + (i : Int) - (-1074 + ((min i j : Nat) : Int))).toNat = i - min i j by omega,show (-1074 + (j : Int) - (-1074 + ((min i j : Nat) : Int))).toNat = j - min i j by omega,signed_eq,signed_eq]
 have ex : sgn (fneg x) (m * 2 ^ (i - min i j)) * 2 ^ min i j = fval x := by
  rw [fval_eq,v1,← sgn_mul_pow,Nat.mul_assoc,← Nat.pow_add,show i - min i j + min i j = i by omega]
 have ey : sgn (fneg y) (n * 2 ^ (j - min i j)) * 2 ^ min i j = fval y := by
  rw [fval_eq,v2,← sgn_mul_pow,Nat.mul_assoc,← Nat.pow_add,show j - min i j + min i j = j by omega]
 rw [← ex,← ey]
 generalize sgn (fneg x) (m * 2 ^ (i - min i j)) = X
 generalize sgn (fneg y) (n * 2 ^ (j - min i j)) = Y
 have hp : (0 : Int) < 2 ^ min i j := Int.pow_pos (by omega)
 congr 1
 show compareOfLessAndEq X Y = compareOfLessAndEq (X * 2 ^ min i j) (Y * 2 ^ min i j)
 unfold compareOfLessAndEq
 have a1 : X * 2 ^ min i j < Y * 2 ^ min i j ↔ X < Y := Int.mul_lt_mul_right hp
 have a2 : X * 2 ^ min i j = Y * 2 ^ min i j ↔ X = Y := ⟨fun h => Int.eq_of_mul_eq_mul_right (Int.ne_of_gt hp) h,fun h => by rw [h]⟩
 simp only [a1,a2]
end Tvf
