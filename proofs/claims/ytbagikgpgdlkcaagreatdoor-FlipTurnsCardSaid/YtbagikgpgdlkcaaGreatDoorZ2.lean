/- Part of the proof. No conditions. -/
import Derived.Test.YtbagikgpgdlkcaaGreatDoorZ1
import Derived.Test.YtbagikgpgdlkcaaGreatDoorRows
import Derived.WalkSpells
import Derived.WalkLawsBesides
import Derived.Lib.Hide
set_option linter.all false
set_option maxHeartbeats 8000000
set_option maxRecDepth 100000
namespace Tvf
open Ieee
theorem fin_abs {x : Nat} (h : fin x) : fin (x % 2 ^ 63) := by
 unfold fin at *; omega
theorem fneg_abs (x : Nat) : fneg (x % 2 ^ 63) = false := by
 unfold fneg; simp
theorem fval_abs (x : Nat) : fval (x % 2 ^ 63) = (fval x).natAbs := by
 have e : (fval x).natAbs = mg (x % 2 ^ 63) := by unfold fval; split <;> simp
 rw [e,fval_eq,fneg_abs,show x % 2 ^ 63 % 2 ^ 63 = x % 2 ^ 63 by omega]; rfl
theorem natAbs_fval (x : Nat) : (fval x).natAbs = mg (x % 2 ^ 63) := by unfold fval; split <;> simp
theorem fval_nonneg_of_lt {x : Nat} (h : x < 2 ^ 63) : fval x = mg x := by
 unfold fval fneg
 rw [show x / 2 ^ 63 % 2 = 0 by omega,show x % 2 ^ 63 = x by omega]; rfl
theorem mg_lt {r s : Nat} (h : r < s) : mg r < mg s := by
 have hp : ∀ k,0 < 2 ^ k := two_pow_pos
 by_cases hs : s < 2 ^ 52
 ·unfold mg; rw [if_pos (by omega),if_pos hs]; exact h
 ·have es : mg s = (2 ^ 52 + s % 2 ^ 52) * 2 ^ (s / 2 ^ 52 - 1) := by unfold mg; rw [if_neg hs]
  by_cases hr : r < 2 ^ 52
  ·have er : mg r = r := by unfold mg; rw [if_pos hr]
   rw [er,es]
   have := Nat.mul_le_mul_left (2 ^ 52 + s % 2 ^ 52) (hp (s / 2 ^ 52 - 1))
   omega
  ·have er : mg r = (2 ^ 52 + r % 2 ^ 52) * 2 ^ (r / 2 ^ 52 - 1) := by unfold mg; rw [if_neg hr]
   rw [er,es]
   by_cases hq : r / 2 ^ 52 = s / 2 ^ 52
   ·rw [hq]; exact Nat.mul_lt_mul_of_pos_right (by omega) (hp _)
   ·have h1 : r / 2 ^ 52 - 1 + 1 ≤ s / 2 ^ 52 - 1 := by omega
    have h2 : 2 ^ (r / 2 ^ 52 - 1 + 1) ≤ 2 ^ (s / 2 ^ 52 - 1) := Nat.pow_le_pow_right (by omega) h1
    rw [Nat.pow_succ] at h2
    have h3 : (2 ^ 52 + r % 2 ^ 52) * 2 ^ (r / 2 ^ 52 - 1) < 2 ^ 53 * 2 ^ (r / 2 ^ 52 - 1) := Nat.mul_lt_mul_of_pos_right (by omega) (hp _)
    have h4 : 2 ^ 52 * (2 ^ (r / 2 ^ 52 - 1) * 2) ≤ (2 ^ 52 + s % 2 ^ 52) * 2 ^ (s / 2 ^ 52 - 1) := Nat.mul_le_mul (by omega) h2
    have h5 : 2 ^ 53 * 2 ^ (r / 2 ^ 52 - 1) = 2 ^ 52 * (2 ^ (r / 2 ^ 52 - 1) * 2) := by
     generalize 2 ^ (r / 2 ^ 52 - 1) = c; omega
    omega
theorem mg_le {r s : Nat} (h : r ≤ s) : mg r ≤ mg s := by
 by_cases e : r = s
 ·subst e; exact Nat.le_refl _
 ·exact Nat.le_of_lt (mg_lt (by omega))
theorem fval_lt_top {x : Nat} (h : fin x) : (fval x).natAbs < 2 ^ top := by
 rw [natAbs_fval]
 have h1 := mg_lt (r := x % 2 ^ 63) (s := 2047 * 2 ^ 52) h.2
 obtain ⟨e,he⟩ : ∃ e : Nat,e = 2046 := ⟨_,rfl⟩
 have h2 := mg_scale e (2 ^ 52) (by omega) (Or.inr (Nat.le_refl _))
 rw [show e * 2 ^ 52 + 2 ^ 52 = 2047 * 2 ^ 52 by omega] at h2
 rw [h2,← Nat.pow_add,show 52 + e = top by have := top_eq; omega] at h1
 exact h1
theorem inReach_of {z : Int} (h : z.natAbs < 2 ^ top) (hz : rep z) : inReach z := by unfold inReach; rw [rn_rep hz]; exact h
theorem inReach_le {z : Int} {k : Nat} (h : z.natAbs ≤ 2 ^ k) (hk : k < top) : inReach z := by
 unfold inReach
 have hr : rep ((2 : Int) ^ k) := by
  have := rep_of (m := 1) k (by decide); rw [Int.one_mul] at this; exact this
 have h2 : (2 : Nat) ^ k < 2 ^ top := Nat.pow_lt_pow_right (by omega) hk
 have cast : ((2 ^ k : Nat) : Int) = (2 : Int) ^ k := by simp
 have m1 := rn_mono (a := z) (b := 2 ^ k) (by rw [← cast]; omega)
 have m2 := rn_mono (a := -(2 ^ k)) (b := z) (by rw [← cast]; omega)
 rw [rn_rep (rep_neg hr)] at m2
 rw [rn_rep hr] at m1
 rw [← cast] at m1 m2
 omega
def fopp (x : Nat) : Nat := x ^^^ 2 ^ 63
theorem fopp_eq {x : Nat} (h : x < 2 ^ 64) : fopp x = if x < 2 ^ 63 then x + 2 ^ 63 else x - 2 ^ 63 := by
 unfold fopp
 apply Nat.eq_of_testBit_eq
 intro i
 rw [Nat.testBit_xor,Nat.testBit_two_pow]
 by_cases hi : i = 63
 ·subst hi
  by_cases hx : x < 2 ^ 63
  ·rw [if_pos hx,Nat.add_comm,Nat.testBit_two_pow_add_eq]; simp
  ·rw [if_neg hx]
   have e : x = 2 ^ 63 + (x - 2 ^ 63) := by omega
   conv => lhs; rw [e]
   rw [Nat.testBit_two_pow_add_eq]; simp
 ·have hd : decide (63 = i) = false := by simp; omega
  rw [hd,Bool.xor_false]
  by_cases hx : x < 2 ^ 63
  ·rw [if_pos hx,Nat.add_comm]
   by_cases hi2 : i < 63
   ·exact (Nat.testBit_two_pow_add_gt hi2 x).symm
   ·rw [Nat.testBit_lt_two_pow (Nat.lt_of_lt_of_le h (Nat.pow_le_pow_right (by omega) (by omega)))]
    rw [Nat.testBit_lt_two_pow (Nat.lt_of_lt_of_le (show 2 ^ 63 + x < 2 ^ 64 by omega) (Nat.pow_le_pow_right (by omega) (by omega)))]
  ·rw [if_neg hx]
   have e : x = 2 ^ 63 + (x - 2 ^ 63) := by omega
   by_cases hi2 : i < 63
   ·conv => lhs; rw [e]
    exact Nat.testBit_two_pow_add_gt hi2 _
   ·rw [Nat.testBit_lt_two_pow (Nat.lt_of_lt_of_le h (Nat.pow_le_pow_right (by omega) (by omega)))]
    rw [Nat.testBit_lt_two_pow (Nat.lt_of_lt_of_le (show x - 2 ^ 63 < 2 ^ 64 by omega) (Nat.pow_le_pow_right (by omega) (by omega)))]
theorem fopp_fin {x : Nat} (h : fin x) : fin (fopp x) := by
 rw [fopp_eq h.1]; unfold fin at *; split <;> omega
theorem fopp_val {x : Nat} (h : x < 2 ^ 64) : fval (fopp x) = -fval x := by
 rw [fopp_eq h]
 unfold fval fneg
 by_cases hx : x < 2 ^ 63
 ·rw [if_pos hx,show (x + 2 ^ 63) / 2 ^ 63 % 2 = 1 by omega,show x / 2 ^ 63 % 2 = 0 by omega,show (x + 2 ^ 63) % 2 ^ 63 = x % 2 ^ 63 by omega]; simp
 ·rw [if_neg hx,show (x - 2 ^ 63) / 2 ^ 63 % 2 = 0 by omega,show x / 2 ^ 63 % 2 = 1 by omega,show (x - 2 ^ 63) % 2 ^ 63 = x % 2 ^ 63 by omega]; simp
theorem lt_val {x y : Nat} (hx : fin x) (hy : fin y) : (D.order x y == some .lt) = decide (fval x < fval y) := by
 rw [order_val hx hy]
 show (some (compareOfLessAndEq (fval x) (fval y)) == some Ordering.lt) = _
 unfold compareOfLessAndEq
 by_cases h1 : fval x < fval y
 ·simp [h1]
 ·by_cases h2 : fval x = fval y
  ·simp [h2]
  ·simp [h1,h2]
theorem eq_val {x y : Nat} (hx : fin x) (hy : fin y) : (D.order x y == some .eq) = decide (fval x = fval y) := by
 rw [order_val hx hy]
 show (some (compareOfLessAndEq (fval x) (fval y)) == some Ordering.eq) = _
 unfold compareOfLessAndEq
 by_cases h1 : fval x < fval y
 ·have : ¬ fval x = fval y := by omega
  simp [h1,this]
 ·by_cases h2 : fval x = fval y
  ·simp [h2]
  ·simp [h1,h2]
theorem gt_val {x y : Nat} (hx : fin x) (hy : fin y) : (D.order x y == some .gt) = decide (fval y < fval x) := by
 rw [order_val hx hy]
 show (some (compareOfLessAndEq (fval x) (fval y)) == some Ordering.gt) = _
 unfold compareOfLessAndEq
 by_cases h1 : fval x < fval y
 ·have : ¬ fval y < fval x := by omega
  simp [h1,this]
 ·by_cases h2 : fval x = fval y
  ·simp [h2]
  ·have : fval y < fval x := by omega
   simp [h1,h2,this]
theorem le_val {x y : Nat} (hx : fin x) (hy : fin y) : (D.order x y == some .lt || D.order x y == some .eq) = decide (fval x ≤ fval y) := by
 rw [lt_val hx hy,eq_val hx hy]
 by_cases h1 : fval x < fval y
 ·simp [h1]; omega
 ·by_cases h2 : fval x = fval y
  ·simp [h2]
  ·have : ¬ fval x ≤ fval y := by omega
   simp [h1,h2,this]
theorem ge_val {x y : Nat} (hx : fin x) (hy : fin y) : (D.order x y == some .gt || D.order x y == some .eq) = decide (fval y ≤ fval x) := by
 rw [gt_val hx hy,eq_val hx hy]
 by_cases h1 : fval y < fval x
 ·simp [h1]; omega
 ·by_cases h2 : fval x = fval y
  ·simp [h2]
  ·have : ¬ fval y ≤ fval x := by omega
   simp [h1,h2,this]
theorem ne_val {x y : Nat} (hx : fin x) (hy : fin y) : (D.order x y != some .eq) = decide (fval x ≠ fval y) := by
 have h := eq_val hx hy
 have : (D.order x y != some Ordering.eq) = !(D.order x y == some Ordering.eq) := rfl
 rw [this,h]; by_cases h2 : fval x = fval y <;> simp [h2]
theorem abs_le_unfin {x c : Nat} (hx : ¬ fin x) (h64 : x < 2 ^ 64) (hc : fin c) : (D.order (x % 2 ^ 63) c == some .lt || D.order (x % 2 ^ 63) c == some .eq) = false := by
 have hr : 2047 * 2 ^ 52 ≤ x % 2 ^ 63 := by
  apply Classical.byContradiction; intro h; exact hx ⟨h64,by omega⟩
 obtain ⟨n,j,e2,v2,_⟩ := read_fin hc
 unfold Format.order
 rw [e2]
 unfold Format.read
 rw [signWeight_d,binade_d,infRung_d,leastPlace_d]
 simp only [show x % 2 ^ 63 % 2 ^ 63 = x % 2 ^ 63 by omega]
 rw [if_neg (by omega),if_neg (by omega)]
 have hs : (x % 2 ^ 63 / 2 ^ 63 % 2 == 1) = false := by simp
 simp only [hs]
 split <;> rfl
theorem cut_zero (s : Bool) (n drop : Nat) : Toward.zero.cut s n drop = n / 2 ^ drop := by
 unfold Toward.cut
 simp only [Nat.one_shiftLeft]
 show n / 2 ^ min drop (n.log2 + 2) + 0 = _
 by_cases h : drop ≤ n.log2 + 2
 ·rw [Nat.min_eq_left h]; rfl
 ·rw [Nat.min_eq_right (by omega)]
  have l2 : n < 2 ^ (n.log2 + 1) := Nat.lt_log2_self
  have p1 : 2 ^ (n.log2 + 2) = 2 * 2 ^ (n.log2 + 1) := by rw [Nat.pow_succ]; omega
  have p2 : 2 ^ (n.log2 + 2) ≤ 2 ^ drop := Nat.pow_le_pow_right (by omega) (by omega)
  rw [Nat.div_eq_of_lt (by omega),Nat.div_eq_of_lt (by omega)]
def ftrunc (x : Nat) : Nat := D.write ((D.read x).integral .zero)
theorem ftrunc_val {x : Nat} (h : fin x) : fin (ftrunc x) ∧ fval (ftrunc x) = sgn (fneg x) ((fval x).natAbs / 2 ^ unitE * 2 ^ unitE) := by
 obtain ⟨m,k,e1,v1,hm⟩ := read_fin h
 unfold ftrunc
 rw [e1,natAbs_fval,v1]
 unfold Datum.integral
 simp only [cut_zero,Nat.shiftLeft_eq]
 have hmag : m * 2 ^ (-1074 + (k : Int)).toNat / 2 ^ (-(-1074 + (k : Int))).toNat = m * 2 ^ k / 2 ^ unitE := by
  have hu := unitE_eq
  by_cases hk : unitE ≤ k
  ·rw [show (-1074 + (k : Int)).toNat = k - unitE by omega,show (-(-1074 + (k : Int))).toNat = 0 by omega,Nat.pow_zero,Nat.div_one]
   rw [show m * 2 ^ k = m * 2 ^ (k - unitE) * 2 ^ unitE by rw [Nat.mul_assoc,← Nat.pow_add,show k - unitE + unitE = k by omega]]
   rw [Nat.mul_div_cancel _ (two_pow_pos _)]
  ·rw [show (-1074 + (k : Int)).toNat = 0 by omega,show (-(-1074 + (k : Int))).toNat = unitE - k by omega,Nat.pow_zero,Nat.mul_one]
   rw [show (2 : Nat) ^ unitE = 2 ^ (unitE - k) * 2 ^ k by rw [← Nat.pow_add,show unitE - k + k = unitE by omega]]
   rw [Nat.mul_div_mul_right _ _ (two_pow_pos _)]
 rw [hmag]
 have hle : m * 2 ^ k / 2 ^ unitE * 2 ^ unitE ≤ m * 2 ^ k := Nat.div_mul_le_self _ _
 have hrep : repN (m * 2 ^ k / 2 ^ unitE * 2 ^ unitE) := by
  by_cases hk : unitE ≤ k
  ·refine ⟨m,k,by omega,?_⟩
   rw [show m * 2 ^ k = m * 2 ^ (k - unitE) * 2 ^ unitE by rw [Nat.mul_assoc,← Nat.pow_add,show k - unitE + unitE = k by omega]]
   rw [Nat.mul_div_cancel _ (two_pow_pos _)]
  ·refine ⟨m * 2 ^ k / 2 ^ unitE,unitE,?_,rfl⟩
   have : m * 2 ^ k / 2 ^ unitE ≤ m := by
    rw [show (2 : Nat) ^ unitE = 2 ^ (unitE - k) * 2 ^ k by rw [← Nat.pow_add,show unitE - k + k = unitE by omega]]
    rw [Nat.mul_div_mul_right _ _ (two_pow_pos _)]
    exact Nat.div_le_self _ _
   omega
 have hlt : m * 2 ^ k < 2 ^ top := by
  have := fval_lt_top h; rw [natAbs_fval,v1] at this; exact this
 have hn := nearest_val (fneg x) (m * 2 ^ k / 2 ^ unitE) (m * 2 ^ k / 2 ^ unitE * 2 ^ unitE) unitE 0 0 (by omega) (by have := unitE_eq; omega) (by rw [rnN_rep _ hrep]; omega)
 refine ⟨hn.1,?_⟩
 show fval (D.nearest _ _ _) = _
 rw [hn.2.1,rnN_rep _ hrep]
theorem sgn_fneg (x : Nat) : sgn (fneg x) (fval x).natAbs = fval x := by rw [natAbs_fval]; rfl
theorem ftrunc_eq {x : Nat} (h : fin x) : (D.order (ftrunc x) x == some .eq) = decide ((fval x).natAbs % 2 ^ unitE = 0) := by
 obtain ⟨h1,h2⟩ := ftrunc_val h
 rw [eq_val h1 h,h2]
 have e : sgn (fneg x) ((fval x).natAbs / 2 ^ unitE * 2 ^ unitE) = fval x ↔ (fval x).natAbs % 2 ^ unitE = 0 := by
  have hd := Nat.div_add_mod (fval x).natAbs (2 ^ unitE)
  rw [Nat.mul_comm] at hd
  have hs := sgn_fneg x
  generalize (fval x).natAbs / 2 ^ unitE * 2 ^ unitE = q at *
  generalize (fval x).natAbs % 2 ^ unitE = r at *
  generalize (fval x).natAbs = n at *
  unfold sgn at *
  rw [← hs]
  cases fneg x <;> simp <;> omega
 exact decide_eq_decide.2 e
end Tvf
namespace Go.Proofs.YtbagikgpgdlkcaaGreatDoor
open Go.RowKit
@[go_sem] theorem ext_bits (x : Nat) (w : World) :
  (callFunc 183 #[.float .f64 x]).run Tryz.prog w = .ok (.value (.int .u64 x)) w := by
 rw [run_callFunc_extern (e := Extern.MathFloatBits.float64bits) Tryz.func183 (by kernel_rfl) (by kernel_rfl) (by kernel_rfl) (by kernel_rfl)]; rfl
@[go_sem] theorem ext_frombits (n : Int) (w : World) :
  (callFunc 182 #[.int .u64 n]).run Tryz.prog w = .ok (.value (.float .f64 n.toNat)) w := by
 rw [run_callFunc_extern (e := Extern.MathFloatBits.float64frombits) Tryz.func182 (by kernel_rfl) (by kernel_rfl) (by kernel_rfl) (by kernel_rfl)]; rfl
theorem ext_trunc (x : Nat) (hx : (FloatKind.f64.decode x).isNaN = false) (w : World) :
  (callFunc 186 #[.float .f64 x]).run Tryz.prog w = .ok (.value (.float .f64 (FloatKind.f64.encode ((FloatKind.f64.decode x).integral .zero)))) w := by
 rw [run_callFunc_extern (e := Extern.MathFloor.toIntegral "math.archTrunc" .zero) Tryz.func186 (by kernel_rfl) (by kernel_rfl) (by kernel_rfl) (by kernel_rfl)]
 have key : ∀ (d : Ieee.Datum) (m : Sem Value), d.isNaN = false → (Sem.run Tryz.prog (match d with | .nan _ _ => m | d => pure (Value.float .f64 (FloatKind.f64.encode (d.integral .zero)))) w) = .ok (Value.float .f64 (FloatKind.f64.encode (d.integral .zero))) w := by
  intro d m hd
  cases d with
  | nan s t => cases hd
  | infinity s => rfl
  | number s m e => rfl
 have := key (FloatKind.f64.decode x) (match FloatKind.f64.decode x with
  | .nan s t => if FloatKind.f64.format.quiet t = t then pure (Value.float .f64 x) else do
   let kept ← choose (Question.extern "math.Floor,Ceil,Trunc,RoundToEven.signallingNaN kept" 2)
   pure (Value.float .f64 (if kept == 1 then x else FloatKind.f64.encode (.nan s (FloatKind.f64.format.quiet t))))
  | _ => pure undef) hx
 have e2 : Sem.run Tryz.prog (Extern.MathFloor.toIntegral "math.archTrunc" .zero #[.float .f64 x]) w = .ok (Value.float .f64 (FloatKind.f64.encode ((FloatKind.f64.decode x).integral .zero))) w := by
  rw [← this]
  show Sem.run Tryz.prog (match FloatKind.f64.decode x with | .nan _ _ => _ | d => _) w = _
  cases FloatKind.f64.decode x <;> rfl
 rw [e2]; rfl
end Go.Proofs.YtbagikgpgdlkcaaGreatDoor
namespace Tvf
open Ieee
def fadd (x y : Nat) : Nat := (D.add x y).getD 0
def fsub (x y : Nat) : Nat := (D.sub x y).getD 0
def fmul (x y : Nat) : Nat := (D.mul x y).getD 0
def flt (x y : Nat) : Bool := D.order x y == some .lt
def fle (x y : Nat) : Bool := D.order x y == some .lt || D.order x y == some .eq
def fgt (x y : Nat) : Bool := D.order x y == some .gt
def fge (x y : Nat) : Bool := D.order x y == some .gt || D.order x y == some .eq
def feq (x y : Nat) : Bool := D.order x y == some .eq
def fne (x y : Nat) : Bool := D.order x y != some .eq
theorem add_some {x y : Nat} (hx : fin x) (hy : fin y) : D.add x y = some (fadd x y) := by
 obtain ⟨m,i,e1,_,_⟩ := read_fin hx
 obtain ⟨n,j,e2,_,_⟩ := read_fin hy
 have : (D.add x y).isSome = true := by unfold Format.add; rw [e1,e2]; rfl
 unfold fadd
 cases h : D.add x y with
 | none => rw [h] at this; cases this
 | some r => rfl
theorem sub_some {x y : Nat} (hx : fin x) (hy : fin y) : D.sub x y = some (fsub x y) := by
 obtain ⟨m,i,e1,_,_⟩ := read_fin hx
 obtain ⟨n,j,e2,_,_⟩ := read_fin hy
 have : (D.sub x y).isSome = true := by unfold Format.sub; rw [e1,e2]; rfl
 unfold fsub
 cases h : D.sub x y with
 | none => rw [h] at this; cases this
 | some r => rfl
theorem mul_some {x y : Nat} (hx : fin x) (hy : fin y) : D.mul x y = some (fmul x y) := by
 obtain ⟨m,i,e1,_,_⟩ := read_fin hx
 obtain ⟨n,j,e2,_,_⟩ := read_fin hy
 have : (D.mul x y).isSome = true := by unfold Format.mul; rw [e1,e2]; rfl
 unfold fmul
 cases h : D.mul x y with
 | none => rw [h] at this; cases this
 | some r => rfl
theorem fadd_val {x y : Nat} (hx : fin x) (hy : fin y) (hr : inReach (fval x + fval y)) : fin (fadd x y) ∧ fval (fadd x y) = rn (fval x + fval y) := by
 obtain ⟨r,e,h⟩ := add_val hx hy hr
 rw [add_some hx hy] at e; cases e; exact h
theorem fsub_val {x y : Nat} (hx : fin x) (hy : fin y) (hr : inReach (fval x - fval y)) : fin (fsub x y) ∧ fval (fsub x y) = rn (fval x - fval y) := by
 obtain ⟨r,e,h⟩ := sub_val hx hy hr
 rw [sub_some hx hy] at e; cases e; exact h
theorem fmul_val {x y : Nat} (hx : fin x) (hy : fin y) {Z : Int} (hz : fval x * fval y = Z * 2 ^ unitE) (hr : inReach Z) : fin (fmul x y) ∧ fval (fmul x y) = rn Z := by
 obtain ⟨r,e,h⟩ := mul_val hx hy hz hr
 rw [mul_some hx hy] at e; cases e; exact h
theorem flt_val {x y : Nat} (hx : fin x) (hy : fin y) : flt x y = decide (fval x < fval y) := lt_val hx hy
theorem fle_val {x y : Nat} (hx : fin x) (hy : fin y) : fle x y = decide (fval x ≤ fval y) := le_val hx hy
theorem fgt_val {x y : Nat} (hx : fin x) (hy : fin y) : fgt x y = decide (fval y < fval x) := gt_val hx hy
theorem fge_val {x y : Nat} (hx : fin x) (hy : fin y) : fge x y = decide (fval y ≤ fval x) := ge_val hx hy
theorem feq_val {x y : Nat} (hx : fin x) (hy : fin y) : feq x y = decide (fval x = fval y) := eq_val hx hy
theorem fne_val {x y : Nat} (hx : fin x) (hy : fin y) : fne x y = decide (fval x ≠ fval y) := ne_val hx hy
end Tvf
namespace Go
open Tvf
section
variable {P : Program}
@[go_sem] theorem run_fadd (t : TypeId) (x y : Nat) (hx : fin x) (hy : fin y) (w : World) : (binOp .add t (.float .f64 x) (.float .f64 y)).run P w = .ok (.float .f64 (fadd x y)) w :=
 run_float_arith w .add t .f64 x y _ (add_some hx hy)
@[go_sem] theorem run_fsub (t : TypeId) (x y : Nat) (hx : fin x) (hy : fin y) (w : World) : (binOp .sub t (.float .f64 x) (.float .f64 y)).run P w = .ok (.float .f64 (fsub x y)) w :=
 run_float_arith w .sub t .f64 x y _ (sub_some hx hy)
@[go_sem] theorem run_fmul (t : TypeId) (x y : Nat) (hx : fin x) (hy : fin y) (w : World) : (binOp .mul t (.float .f64 x) (.float .f64 y)).run P w = .ok (.float .f64 (fmul x y)) w :=
 run_float_arith w .mul t .f64 x y _ (mul_some hx hy)
@[go_sem] theorem f64_lt (x y : Nat) : (FloatKind.f64.format.order x y == some .lt) = flt x y := rfl
@[go_sem] theorem f64_gt (x y : Nat) : (FloatKind.f64.format.order x y == some .gt) = fgt x y := rfl
@[go_sem] theorem f64_eq (x y : Nat) : (FloatKind.f64.format.order x y == some .eq) = feq x y := rfl
@[go_sem] theorem f64_ne (x y : Nat) : (FloatKind.f64.format.order x y != some .eq) = fne x y := rfl
@[go_sem] theorem f64_le (x y : Nat) : (flt x y || feq x y) = fle x y := rfl
@[go_sem] theorem f64_ge (x y : Nat) : (fgt x y || feq x y) = fge x y := rfl
@[go_sem] theorem run_store_float (w : World) (a : Addr) (m : Mode) (k : FloatKind) (b : Nat) : (store a (.float k b) m).run P w = stored P w a (.float k b) m := run_store P w a _ m rfl
@[go_sem] theorem f64_neg (x : Nat) (w : World) : (Op.unary .neg (.float .f64 x)).run P w = .ok (.float .f64 (fopp x)) w := rfl
end
end Go
namespace Go.Proofs.YtbagikgpgdlkcaaGreatDoor
open Go.RowKit Tvf
theorem andNot_top (x : Nat) (hx : x < 2 ^ 64) : bits .andNot .u64 (x : Int) 9223372036854775808 = ((x % 2 ^ 63 : Nat) : Int) := by
 rw [u64_andNot _ _ (by omega) (by omega) (by omega) (by omega)]
 show ((x &&& (2 ^ 63 - 1) : Nat) : Int) = _
 rw [Nat.and_two_pow_sub_one_eq_mod]
theorem abs_any (x : Nat) (hx : x < 2 ^ 64) (w : World) :
  Calls Tryz.prog 130 #[.float .f64 x] w fun e w' => e = .returned (.float .f64 (x % 2 ^ 63)) ∧ w = w' := by
 have H := andNot_top x hx
 clear hx
 go_enter Tryz.func130,Tryz.ntmps130
 go_wp2
 go_ret
 exact ⟨rfl,rfl⟩
theorem isNaN_fin (x : Nat) (hx : fin x) (w : World) :
  Calls Tryz.prog 238 #[.float .f64 x] w fun e w' => e = .returned (.bool false) ∧ w = w' := by
 have H : fne x x = false := by rw [fne_val hx hx]; simp
 clear hx
 go_enter Tryz.func238,Tryz.ntmps238
 go_wp2
 go_ret
 exact ⟨rfl,rfl⟩
theorem trunc_fin (x : Nat) (hx : fin x) (w : World) :
  Calls Tryz.prog 136 #[.float .f64 x] w fun e w' => e = .returned (.float .f64 (ftrunc x)) ∧ w = w' := by
 have H := ext_trunc x (by
  obtain ⟨m,k,e1,v1,hm⟩ := read_fin hx
  show (D.read x).isNaN = false
  rw [e1]; rfl)
 have H2 : FloatKind.f64.encode ((FloatKind.f64.decode x).integral .zero) = ftrunc x := rfl
 clear hx
 go_enter Tryz.func136,Tryz.ntmps136
 go_wp2
 go_ret
 exact ⟨rfl,rfl⟩
theorem normalize_fin (x : Nat) (hx : fin x) (w : World) :
  Calls Tryz.prog 239 #[.float .f64 x] w fun e w' => e = .returned (if flt (x % 2 ^ 63) 4503599627370496 then .tuple #[.float .f64 (fmul x 4841369599423283200),.int .i64 (-52)] else .tuple #[.float .f64 x,.int .i64 0]) ∧ w = w' := by
 have hc : fin 4841369599423283200 := by unfold fin; omega
 cases h : flt (x % 2 ^ 63) 4503599627370496
 all_goals
  go_enter Tryz.func239,Tryz.ntmps239
  go_wp2_with (go_at_call 130; refine (abs_any _ hx.1 _).mono ?_; rintro e w' ⟨rfl,rfl⟩)
  go_ret2
  exact ⟨rfl,rfl⟩
theorem not_gt_max {x : Nat} (hx : fin x) : fgt (x % 2 ^ 63) 9218868437227405311 = false := by
 have hc : fin 9218868437227405311 := by unfold fin; omega
 rw [fgt_val (fin_abs hx) hc,fval_nonneg_of_lt (x := x % 2 ^ 63) (by omega),fval_nonneg_of_lt (x := 9218868437227405311) (by omega)]
 have := mg_le (r := x % 2 ^ 63) (s := 9218868437227405311) (by have := hx.2; omega)
 simp; omega
theorem isInf_fin (x : Nat) (hx : fin x) (w : World) :
  Calls Tryz.prog 237 #[.float .f64 x,.int .i64 0] w fun e w' => e = .returned (.bool false) ∧ w = w' := by
 have H := not_gt_max hx
 go_enter Tryz.func237,Tryz.ntmps237
 go_wp2_with (go_at_call 130; refine (abs_any _ hx.1 _).mono ?_; rintro e w' ⟨rfl,rfl⟩)
 go_ret
 exact ⟨rfl,rfl⟩
def setE (b F : Nat) : Nat := b / 2 ^ 63 * 2 ^ 63 + F * 2 ^ 52 + b % 2 ^ 52
theorem bits_and_i64 (a b : Nat) (ha : a < 2 ^ 63) (hb : b < 2 ^ 63) : bits .and .i64 (a : Int) (b : Int) = ((a &&& b : Nat) : Int) := by
 unfold bits
 have ea : BitVec.ofInt IntKind.i64.bits (a : Int) = BitVec.ofNat 64 a := by
  show BitVec.ofInt 64 (a : Int) = _
  exact BitVec.ofInt_natCast 64 a
 have eb : BitVec.ofInt IntKind.i64.bits (b : Int) = BitVec.ofNat 64 b := by
  show BitVec.ofInt 64 (b : Int) = _
  exact BitVec.ofInt_natCast 64 b
 simp only [ea,eb]
 have h : (BitVec.ofNat 64 a &&& BitVec.ofNat 64 b).toNat = a &&& b := by
  rw [BitVec.toNat_and,BitVec.toNat_ofNat,BitVec.toNat_ofNat,Nat.mod_eq_of_lt (by omega),Nat.mod_eq_of_lt (by omega)]
 show IntKind.i64.wrap ((BitVec.ofNat 64 a &&& BitVec.ofNat 64 b).toNat : Int) = _
 rw [h]
 have h2 : a &&& b ≤ a := Nat.and_le_left
 rw [IntKind.wrap_i64]
 omega
theorem and_2047 (n : Nat) (h : n < 2 ^ 63) : bits .and .i64 (n : Int) 2047 = ((n % 2048 : Nat) : Int) := by
 have := bits_and_i64 n 2047 h (by omega)
 rw [show ((2047 : Nat) : Int) = 2047 from rfl] at this
 rw [this]
 show ((n &&& (2 ^ 11 - 1) : Nat) : Int) = _
 rw [Nat.and_two_pow_sub_one_eq_mod]
theorem and_fieldmask (x : Nat) (hx : x < 2 ^ 64) : (x &&& (18446744073709551615 - 9218868437227405312) : Nat) = x / 2 ^ 63 * 2 ^ 63 + x % 2 ^ 52 := by
 show (x &&& 9227875636482146303) = _
 have hm : (9227875636482146303 : Nat) = 2 ^ 63 ||| (2 ^ 52 - 1) := by decide
 rw [hm,Nat.and_or_distrib_left,Nat.and_two_pow_sub_one_eq_mod]
 have h1 : x &&& 2 ^ 63 = x / 2 ^ 63 * 2 ^ 63 := by
  apply Nat.eq_of_testBit_eq
  intro i
  rw [Nat.testBit_and,Nat.testBit_two_pow]
  by_cases h : x < 2 ^ 63
  ·rw [Nat.div_eq_of_lt h,Nat.zero_mul,Nat.zero_testBit]
   by_cases hi : 63 = i
   ·subst hi; rw [Nat.testBit_lt_two_pow h]; rfl
   ·simp [hi]
  ·have : x / 2 ^ 63 = 1 := by omega
   rw [this,Nat.one_mul,Nat.testBit_two_pow]
   by_cases hi : 63 = i
   ·subst hi
    have : x = 2 ^ 63 + (x - 2 ^ 63) := by omega
    rw [this,Nat.testBit_two_pow_add_eq,Nat.testBit_lt_two_pow (show x - 2 ^ 63 < 2 ^ 63 by omega)]; rfl
   ·simp [hi]
 rw [h1,Nat.mul_comm]
 exact (Nat.two_pow_add_eq_or_of_lt (i := 63) (by omega) (x / 2 ^ 63)).symm
theorem or_fields (s m F : Nat) (hm : m < 2 ^ 52) (hF : F < 2048) : (s * 2 ^ 63 + m) ||| (F * 2 ^ 52) = s * 2 ^ 63 + F * 2 ^ 52 + m := by
 rw [Nat.mul_comm s,Nat.two_pow_add_eq_or_of_lt (by omega),Nat.or_assoc,Nat.or_comm m,Nat.mul_comm F,← Nat.two_pow_add_eq_or_of_lt hm,← Nat.two_pow_add_eq_or_of_lt (by omega)]
 omega
theorem or_field (x F : Nat) (hx : x < 2 ^ 64) (hF : F < 2048) : bits .or .u64 (bits .andNot .u64 (x : Int) 9218868437227405312) ((F : Int) * 4503599627370496) = (setE x F : Int) := by
 rw [u64_andNot _ _ (by omega) (by omega) (by omega) (by omega)]
 have e1 : ((x : Int).toNat &&& (18446744073709551615 - (9218868437227405312 : Int).toNat) : Nat) = x / 2 ^ 63 * 2 ^ 63 + x % 2 ^ 52 := and_fieldmask x hx
 rw [e1,show (F : Int) * 4503599627370496 = ((F * 2 ^ 52 : Nat) : Int) by omega]
 rw [u64_or _ _ (by omega) (by omega) (by omega) (by omega)]
 unfold setE
 rw [Int.toNat_natCast,Int.toNat_natCast,or_fields _ _ _ (by omega) hF]
theorem setE_lt (x F : Nat) (hx : x < 2 ^ 64) (hF : F < 2047) : fin (setE x F) := by unfold fin setE; omega
theorem ldexp_n (x y : Nat) (k e0 : Int) (hx : fin x) (hy : fin y) (h0 : feq x 0 = false) (hn : ∀ w,Calls Tryz.prog 239 #[.float .f64 x] w fun e w' => e = .returned (.tuple #[.float .f64 y,.int .i64 e0]) ∧ w = w') (E : Nat) (hE : y / 2 ^ 52 % 2048 = E) (hk1 : -52 ≤ k + e0 + E) (hk2 : k + e0 + E ≤ 2046) (hk3 : -5000 ≤ k) (hk4 : k ≤ 5000) (hk5 : -5000 ≤ e0) (hk6 : e0 ≤ 5000) (w : World) :
  Calls Tryz.prog 217 #[.float .f64 x,.int .i64 k] w fun e w' => e = .returned (.float .f64 (if 1 ≤ k + e0 + E then fmul 4607182418800017408 (setE y (k + e0 + E).toNat) else fmul 4368491638549381120 (setE y (k + e0 + E + 53).toNat))) ∧ w = w' := by
 have H1 : bits .and .i64 (wrap64 ((y : Int) / 4503599627370496)) 2047 = (E : Int) := by
  rw [show wrap64 ((y : Int) / 4503599627370496) = ((y / 2 ^ 52 : Nat) : Int) by unfold wrap64; have := hy.1; omega,and_2047 _ (by have := hy.1; omega),hE]
 have H2 : 1 ≤ k + e0 + E → bits .or .u64 (bits .andNot .u64 (y : Int) 9218868437227405312) ((k + e0 + ((E : Int) - 1023) + 1023) * 4503599627370496) = (setE y (k + e0 + E).toNat : Int) := by
  intro h; rw [← or_field y _ hy.1 (by omega)]; congr 2; omega
 have H3 : ¬ 1 ≤ k + e0 + E → bits .or .u64 (bits .andNot .u64 (y : Int) 9218868437227405312) ((k + e0 + ((E : Int) - 1023) + 53 + 1023) * 4503599627370496) = (setE y (k + e0 + E + 53).toNat : Int) := by
  intro h; rw [← or_field y _ hy.1 (by omega)]; congr 2; omega
 have hE2 : E < 2048 := by omega
 have c1 : fin 4607182418800017408 := by unfold fin; omega
 have c2 : fin 4368491638549381120 := by unfold fin; omega
 have c3 : 1 ≤ k + e0 + E → fin (setE y (k + e0 + E).toNat) := fun h => setE_lt _ _ hy.1 (by omega)
 have c4 : ¬ 1 ≤ k + e0 + E → fin (setE y (k + e0 + E + 53).toNat) := fun h => setE_lt _ _ hy.1 (by omega)
 have HN := Lib.hid hn
 clear hE hn
 by_cases hh : 1 ≤ k + e0 + E
 ·have H := H2 hh
  have c := c3 hh
  rw [if_pos hh]
  clear H2 H3 c3 c4
  go_enter Tryz.func217,Tryz.ntmps217
  go_wp2_with (first | (go_at_call 237; refine (isInf_fin _ hx _).mono ?_; rintro e w' ⟨rfl,rfl⟩) | (go_at_call 238; refine (isNaN_fin _ hx _).mono ?_; rintro e w' ⟨rfl,rfl⟩) | (go_at_call 239; refine (HN.out _).mono ?_; rintro e w' ⟨rfl,rfl⟩))
  go_ret
  exact ⟨rfl,rfl⟩
 ·have H := H3 hh
  have c := c4 hh
  rw [if_neg hh]
  clear H2 H3 c3 c4
  go_enter Tryz.func217,Tryz.ntmps217
  go_wp2_with (first | (go_at_call 237; refine (isInf_fin _ hx _).mono ?_; rintro e w' ⟨rfl,rfl⟩) | (go_at_call 238; refine (isNaN_fin _ hx _).mono ?_; rintro e w' ⟨rfl,rfl⟩) | (go_at_call 239; refine (HN.out _).mono ?_; rintro e w' ⟨rfl,rfl⟩))
  go_ret
  exact ⟨rfl,rfl⟩
theorem mg_norm (s E m : Nat) (hE1 : 1 ≤ E) (hE2 : E < 2048) (hm : m < 2 ^ 52) :
  (s * 2 ^ 63 + E * 2 ^ 52 + m) % 2 ^ 63 = E * 2 ^ 52 + m ∧ mg (E * 2 ^ 52 + m) = (2 ^ 52 + m) * 2 ^ (E - 1) := by
 refine ⟨by omega,?_⟩
 unfold mg
 rw [if_neg (by omega),show (E * 2 ^ 52 + m) % 2 ^ 52 = m by omega,show (E * 2 ^ 52 + m) / 2 ^ 52 = E by omega]
theorem fval_norm {y : Nat} (hy : fin y) (h1 : 1 ≤ y / 2 ^ 52 % 2048) : fval y = sgn (fneg y) ((2 ^ 52 + y % 2 ^ 52) * 2 ^ (y / 2 ^ 52 % 2048 - 1)) := by
 have hy2 := hy.1
 have h := mg_norm (y / 2 ^ 63) (y / 2 ^ 52 % 2048) (y % 2 ^ 52) h1 (by omega) (by omega)
 rw [show y / 2 ^ 63 * 2 ^ 63 + y / 2 ^ 52 % 2048 * 2 ^ 52 + y % 2 ^ 52 = y by omega] at h
 rw [fval_eq,h.1,h.2]
theorem fval_setE {y F : Nat} (hy : fin y) (hF1 : 1 ≤ F) (hF2 : F < 2047) : fval (setE y F) = sgn (fneg y) ((2 ^ 52 + y % 2 ^ 52) * 2 ^ (F - 1)) := by
 have hy2 := hy.1
 have hf := setE_lt y F hy.1 hF2
 have e1 : setE y F / 2 ^ 52 % 2048 = F := by unfold setE; omega
 have e2 : setE y F % 2 ^ 52 = y % 2 ^ 52 := by unfold setE; omega
 have e3 : fneg (setE y F) = fneg y := by
  unfold fneg
  rw [show setE y F / 2 ^ 63 = y / 2 ^ 63 by unfold setE; omega]
 rw [fval_norm hf (by omega),e1,e2,e3]
theorem fval_pow {y F k : Nat} (hf : fin y) (hs : y < 2 ^ 63) (hF : y / 2 ^ 52 % 2048 = F) (h1 : 1 ≤ F) (hm : y % 2 ^ 52 = 0) (hk : k = 51 + F) : fval y = 2 ^ k := by
 rw [fval_norm hf (by omega),hF,hm,Nat.add_zero,← Nat.pow_add,show 52 + (F - 1) = k by omega]
 have : fneg y = false := by unfold fneg; rw [show y / 2 ^ 63 % 2 = 0 by omega]; rfl
 rw [this]
 show ((2 ^ k : Nat) : Int) = _
 simp
theorem fval_one : fval 4607182418800017408 = 2 ^ unitE :=
 fval_pow (F := 1023) (by unfold fin; omega) (by omega) (by omega) (by omega) (by omega) rfl
theorem fval_small : ∃ c : Nat,c + 53 = unitE ∧ fval 4368491638549381120 = 2 ^ c :=
 ⟨51 + 970,rfl,fval_pow (F := 970) (by unfold fin; omega) (by omega) (by omega) (by omega) (by omega) rfl⟩
theorem sgn_natAbs' (s : Bool) (n : Nat) : (sgn s n).natAbs = n := by unfold sgn; split <;> simp
theorem pow_split (a b : Nat) (h : a ≤ b) : (2 : Int) ^ b = 2 ^ (b - a) * 2 ^ a := by
 rw [← Int.pow_add,show b - a + a = b by omega]
theorem ldexp_core {y : Nat} (hy : fin y) (E : Nat) (hE : y / 2 ^ 52 % 2048 = E) (hE1 : 1 ≤ E) (Y t : Int) (a b : Nat) (hY : fval y * 2 ^ b = Y * 2 ^ a) (ht : t = (b : Int) - a + E) (h0 : Y ≠ 0) (htop : Y.natAbs < 2 ^ top) :
  -52 ≤ t ∧ t ≤ 2046 ∧ fin (if 1 ≤ t then fmul 4607182418800017408 (setE y t.toNat) else fmul 4368491638549381120 (setE y (t + 53).toNat)) ∧
   fval (if 1 ≤ t then fmul 4607182418800017408 (setE y t.toNat) else fmul 4368491638549381120 (setE y (t + 53).toNat)) = Y := by
 have hv := fval_norm hy (by omega)
 rw [hE] at hv
 have hM1 : 2 ^ 52 ≤ 2 ^ 52 + y % 2 ^ 52 := by omega
 have hM2 : 2 ^ 52 + y % 2 ^ 52 < 2 ^ 53 := by omega
 have hset : ∀ F,1 ≤ F → F < 2047 → fval (setE y F) = sgn (fneg y) ((2 ^ 52 + y % 2 ^ 52) * 2 ^ (F - 1)) := fun F h1 h2 => fval_setE hy h1 h2
 generalize 2 ^ 52 + y % 2 ^ 52 = M at *
 have habs : M * 2 ^ (E - 1 + b) = Y.natAbs * 2 ^ a := by
  have := congrArg Int.natAbs hY
  rw [Int.natAbs_mul,Int.natAbs_mul,natAbs_two_pow,natAbs_two_pow,hv,sgn_natAbs', Nat.mul_assoc,← Nat.pow_add] at this
  exact this
 have t1 : -52 ≤ t := by
  have p1 : M * 2 ^ (E - 1 + b) < 2 ^ 53 * 2 ^ (E - 1 + b) := Nat.mul_lt_mul_of_pos_right hM2 (two_pow_pos _)
  have p2 : 2 ^ a ≤ Y.natAbs * 2 ^ a := Nat.le_mul_of_pos_left _ (by omega)
  rw [← Nat.pow_add] at p1
  have := (Nat.pow_lt_pow_iff_right (show 1 < 2 by omega)).1 (Nat.lt_of_le_of_lt (Nat.le_trans p2 (Nat.le_of_eq habs.symm)) p1)
  omega
 have t2 : t ≤ 2046 := by
  have p1 : 2 ^ 52 * 2 ^ (E - 1 + b) ≤ M * 2 ^ (E - 1 + b) := Nat.mul_le_mul_right _ hM1
  have p2 : Y.natAbs * 2 ^ a < 2 ^ top * 2 ^ a := Nat.mul_lt_mul_of_pos_right htop (two_pow_pos _)
  rw [← Nat.pow_add] at p1 p2
  have := (Nat.pow_lt_pow_iff_right (show 1 < 2 by omega)).1 (Nat.lt_of_le_of_lt p1 (Nat.lt_of_le_of_lt (Nat.le_of_eq habs) p2))
  have := top_eq
  omega
 refine ⟨t1,t2,?_⟩
 have c1 : fin 4607182418800017408 := by unfold fin; omega
 have c2 : fin 4368491638549381120 := by unfold fin; omega
 have hYr : rep Y := by
  have : rep (Y * 2 ^ a) := by rw [← hY]; exact rep_scale (rep_fval y) b
  exact rep_of_scale this
 have sg : ∀ n c : Nat,sgn (fneg y) (n * 2 ^ c) = sgn (fneg y) n * 2 ^ c := fun n c => sgn_mul_pow _ _ _
 have hS : sgn (fneg y) M * 2 ^ (E - 1 + b) = Y * 2 ^ a := by
  rw [← hY,hv,sg,Int.mul_assoc,← Int.pow_add]
 have hp : ∀ k : Nat,(2 : Int) ^ k ≠ 0 := fun k => Int.ne_of_gt (Int.pow_pos (by omega))
 by_cases h : 1 ≤ t
 ·rw [if_pos h]
  have hf := setE_lt y t.toNat hy.1 (by omega)
  have hval := hset t.toNat (by omega) (by omega)
  have hval2 : fval (setE y t.toNat) = Y := by
   rw [hval,sg]
   have e := pow_split a (E - 1 + b) (by omega)
   rw [e,← Int.mul_assoc] at hS
   have := Int.eq_of_mul_eq_mul_right (hp a) hS
   rw [← this,show t.toNat - 1 = E - 1 + b - a by omega]
  have := fmul_val c1 hf (Z := Y) (by rw [fval_one,hval2,Int.mul_comm]) (inReach_of htop hYr)
  rw [rn_rep hYr] at this
  exact this
 ·rw [if_neg h]
  obtain ⟨c,hc,hcv⟩ := fval_small
  have hf := setE_lt y (t + 53).toNat hy.1 (by omega)
  have hval := hset (t + 53).toNat (by omega) (by omega)
  have hz : fval 4368491638549381120 * fval (setE y (t + 53).toNat) = Y * 2 ^ unitE := by
   rw [hcv,hval,sg,Int.mul_comm,Int.mul_assoc,← Int.pow_add]
   apply Int.eq_of_mul_eq_mul_right (hp a)
   rw [Int.mul_assoc,← Int.pow_add,Int.mul_assoc,Int.mul_comm (2 ^ unitE),← Int.mul_assoc,← hS,Int.mul_assoc,← Int.pow_add]
   congr 2
   omega
  have := fmul_val c2 hf (Z := Y) hz (inReach_of htop hYr)
  rw [rn_rep hYr] at this
  exact this
theorem feq_zero {x : Nat} (hx : fin x) : feq x 0 = decide (fval x = 0) := by
 rw [feq_val hx (by unfold fin; omega)]; rfl
theorem ldexp_zero (x : Nat) (k : Int) (h0 : feq x 0 = true) (w : World) :
  Calls Tryz.prog 217 #[.float .f64 x,.int .i64 k] w fun e w' => e = .returned (.float .f64 x) ∧ w = w' := by
 go_enter Tryz.func217,Tryz.ntmps217
 go_wp2
 go_ret
 exact ⟨rfl,rfl⟩
theorem Ldexp_of (x r : Nat) (k : Int) (h : ∀ w,Calls Tryz.prog 217 #[.float .f64 x,.int .i64 k] w fun e w' => e = .returned (.float .f64 r) ∧ w = w') (w : World) :
  Calls Tryz.prog 184 #[.float .f64 x,.int .i64 k] w fun e w' => e = .returned (.float .f64 r) ∧ w = w' := by
 have H := Lib.hid h
 clear h
 go_enter Tryz.func184,Tryz.ntmps184
 go_wp2_with (go_at_call 217; refine (H.out _).mono ?_; rintro e w' ⟨rfl,rfl⟩)
 go_ret
 exact ⟨rfl,rfl⟩
theorem flt_norm {x : Nat} (hx : fin x) : flt (x % 2 ^ 63) 4503599627370496 = decide (x / 2 ^ 52 % 2048 = 0) := by
 have hc : fin 4503599627370496 := by unfold fin; omega
 have hx1 := hx.1
 rw [flt_val (fin_abs hx) hc,fval_nonneg_of_lt (x := x % 2 ^ 63) (by omega),fval_nonneg_of_lt (x := 4503599627370496) (by omega)]
 apply decide_eq_decide.2
 constructor
 ·intro h
  apply Classical.byContradiction
  intro hc
  have := mg_le (r := 4503599627370496) (s := x % 2 ^ 63) (by omega)
  omega
 ·intro h
  have := mg_lt (r := x % 2 ^ 63) (s := 4503599627370496) (by omega)
  omega
theorem fval_p52 : fval 4841369599423283200 = 2 ^ (unitE + 52) :=
 fval_pow (F := 1075) (by unfold fin; omega) (by omega) (by omega) (by omega) (by omega) rfl
theorem up_norm {x : Nat} (hx : fin x) (h : x / 2 ^ 52 % 2048 = 0) (h0 : fval x ≠ 0) :
  fin (fmul x 4841369599423283200) ∧ fval (fmul x 4841369599423283200) = fval x * 2 ^ 52 ∧ 1 ≤ fmul x 4841369599423283200 / 2 ^ 52 % 2048 := by
 have hc : fin 4841369599423283200 := by unfold fin; omega
 have hx1 := hx.1
 have hsm : (fval x).natAbs < 2 ^ 52 := by
  rw [natAbs_fval]; unfold mg; rw [if_pos (by omega)]; omega
 have hr : rep (fval x * 2 ^ 52) := rep_of 52 (by omega)
 have hle : (fval x * 2 ^ 52).natAbs ≤ 2 ^ 104 := by omega
 have ht := top_eq
 have hi := inReach_le hle (by omega)
 have hm := fmul_val hx hc (Z := fval x * 2 ^ 52) (by rw [fval_p52,Int.mul_assoc,← Int.pow_add,Nat.add_comm]) hi
 rw [rn_rep hr] at hm
 refine ⟨hm.1,hm.2,?_⟩
 apply Classical.byContradiction
 intro hn
 have hy := hm.1.1
 have : (fval (fmul x 4841369599423283200)).natAbs < 2 ^ 52 := by
  rw [natAbs_fval]; unfold mg; rw [if_pos (by omega)]; omega
 rw [hm.2] at this
 omega
theorem Ldexp_exact (x : Nat) (hx : fin x) (k Y : Int) (a b : Nat) (hY : fval x * 2 ^ b = Y * 2 ^ a) (hk : k = (b : Int) - a) (hk3 : -4900 ≤ k) (hk4 : k ≤ 4900) (htop : Y.natAbs < 2 ^ top) :
  ∃ r,(∀ w,Calls Tryz.prog 184 #[.float .f64 x,.int .i64 k] w fun e w' => e = .returned (.float .f64 r) ∧ w = w') ∧ fin r ∧ fval r = Y := by
 have hp : ∀ k : Nat,(2 : Int) ^ k ≠ 0 := fun k => Int.ne_of_gt (Int.pow_pos (by omega))
 by_cases h0 : fval x = 0
 ·refine ⟨x,fun w => Ldexp_of x x k (fun w => ldexp_zero x k (by rw [feq_zero hx]; simpa using h0) w) w,hx,?_⟩
  rw [h0,Int.zero_mul] at hY
  rw [h0]
  rcases Int.mul_eq_zero.1 hY.symm with h | h
  ·exact h.symm
  ·exact absurd h (hp a)
 ·have hf0 : feq x 0 = false := by rw [feq_zero hx]; simpa using h0
  have hY0 : Y ≠ 0 := by
   rintro rfl
   rw [Int.zero_mul] at hY
   rcases Int.mul_eq_zero.1 hY with h | h
   ·exact h0 h
   ·exact hp b h
  have hn := normalize_fin x hx
  have hx1 := hx.1
  by_cases hs : x / 2 ^ 52 % 2048 = 0
  ·rw [show flt (x % 2 ^ 63) 4503599627370496 = true by rw [flt_norm hx]; simpa using hs] at hn
   obtain ⟨u1,u2,u3⟩ := up_norm hx hs h0
   obtain ⟨E,hE⟩ : ∃ E,fmul x 4841369599423283200 / 2 ^ 52 % 2048 = E := ⟨_,rfl⟩
   have hc := ldexp_core u1 E hE (by omega) Y (k + -52 + E) (a + 52) b (by rw [u2,Int.mul_assoc,Int.mul_comm (2 ^ 52),← Int.mul_assoc,hY,Int.mul_assoc,← Int.pow_add]) (by omega) hY0 htop
   exact ⟨_,fun w => Ldexp_of _ _ _ (fun w => ldexp_n x _ k (-52) hx u1 hf0 hn E hE hc.1 hc.2.1 (by omega) (by omega) (by omega) (by omega) w) w,hc.2.2⟩
  ·rw [show flt (x % 2 ^ 63) 4503599627370496 = false by rw [flt_norm hx]; simpa using hs] at hn
   obtain ⟨E,hE⟩ : ∃ E,x / 2 ^ 52 % 2048 = E := ⟨_,rfl⟩
   have hc := ldexp_core hx E hE (by omega) Y (k + 0 + E) a b hY (by omega) hY0 htop
   exact ⟨_,fun w => Ldexp_of _ _ _ (fun w => ldexp_n x _ k 0 hx hx hf0 hn E hE hc.1 hc.2.1 (by omega) (by omega) (by omega) (by omega) w) w,hc.2.2⟩
theorem and_2047u (n : Nat) (h : n < 2 ^ 64) : bits .and .u64 (n : Int) 2047 = ((n % 2048 : Nat) : Int) := by
 rw [u64_and _ _ (by omega) (by omega) (by omega) (by omega)]
 show ((n &&& (2 ^ 11 - 1) : Nat) : Int) = _
 rw [Nat.and_two_pow_sub_one_eq_mod]
theorem frexp_n (x y : Nat) (e0 : Int) (hx : fin x) (hy : fin y) (h0 : feq x 0 = false) (hn : ∀ w,Calls Tryz.prog 239 #[.float .f64 x] w fun e w' => e = .returned (.tuple #[.float .f64 y,.int .i64 e0]) ∧ w = w') (E : Nat) (hE : y / 2 ^ 52 % 2048 = E) (hk5 : -5000 ≤ e0) (hk6 : e0 ≤ 5000) (w : World) :
  Calls Tryz.prog 222 #[.float .f64 x] w fun e w' => e = .returned (.tuple #[.float .f64 (setE y 1022),.int .i64 (e0 + ((E : Int) - 1023 + 1))]) ∧ w = w' := by
 have H1 : bits .and .u64 ((y : Int) / 4503599627370496) 2047 = (E : Int) := by
  rw [show ((y : Int) / 4503599627370496) = ((y / 2 ^ 52 : Nat) : Int) by omega,and_2047u _ (by have := hy.1; omega),hE]
 have H2 : bits .or .u64 (bits .andNot .u64 (y : Int) 9218868437227405312) 4602678819172646912 = (setE y 1022 : Int) := by
  rw [← or_field y 1022 hy.1 (by omega)]; rfl
 have hE2 : E < 2048 := by omega
 have HN := Lib.hid hn
 clear hE hn
 go_enter Tryz.func222,Tryz.ntmps222
 go_wp2_with (first | (go_at_call 237; refine (isInf_fin _ hx _).mono ?_; rintro e w' ⟨rfl,rfl⟩) | (go_at_call 238; refine (isNaN_fin _ hx _).mono ?_; rintro e w' ⟨rfl,rfl⟩) | (go_at_call 239; refine (HN.out _).mono ?_; rintro e w' ⟨rfl,rfl⟩))
 go_ret2
 exact ⟨rfl,rfl⟩
theorem Frexp_of (x f : Nat) (k : Int) (h : ∀ w,Calls Tryz.prog 222 #[.float .f64 x] w fun e w' => e = .returned (.tuple #[.float .f64 f,.int .i64 k]) ∧ w = w') (w : World) :
  Calls Tryz.prog 188 #[.float .f64 x] w fun e w' => e = .returned (.tuple #[.float .f64 f,.int .i64 k]) ∧ w = w' := by
 have H := Lib.hid h
 clear h
 go_enter Tryz.func188,Tryz.ntmps188
 go_wp2_with (go_at_call 222; refine (H.out _).mono ?_; rintro e w' ⟨rfl,rfl⟩)
 go_ret2
 exact ⟨rfl,rfl⟩
def e1021 : Nat := 1021
theorem e1021_eq : e1021 = 1021 := rfl
theorem Frexp_exact (x : Nat) (hx : fin x) (h0 : 0 < fval x) :
  ∃ (f M t : Nat),(∀ w,Calls Tryz.prog 188 #[.float .f64 x] w fun e w' => e = .returned (.tuple #[.float .f64 f,.int .i64 ((t : Int) - 1073)]) ∧ w = w') ∧
   fin f ∧ fval f = (M : Int) * 2 ^ e1021 ∧ 2 ^ 52 ≤ M ∧ M < 2 ^ 53 ∧ fval x * 2 ^ 52 = (M : Int) * 2 ^ t ∧ t < 2 ^ 12 := by
 have hf0 : feq x 0 = false := by rw [feq_zero hx]; simp; omega
 have hn := normalize_fin x hx
 have hx1 := hx.1
 have core : ∀ (y s : Nat) (hy : fin y),fval x * 2 ^ s = fval y → s ≤ 52 → (∀ w,Calls Tryz.prog 239 #[.float .f64 x] w fun e w' => e = .returned (.tuple #[.float .f64 y,.int .i64 (-(s : Int))]) ∧ w = w') → 1 ≤ y / 2 ^ 52 % 2048 →
   ∃ (f M t : Nat),(∀ w,Calls Tryz.prog 188 #[.float .f64 x] w fun e w' => e = .returned (.tuple #[.float .f64 f,.int .i64 ((t : Int) - 1073)]) ∧ w = w') ∧
    fin f ∧ fval f = (M : Int) * 2 ^ e1021 ∧ 2 ^ 52 ≤ M ∧ M < 2 ^ 53 ∧ fval x * 2 ^ 52 = (M : Int) * 2 ^ t ∧ t < 2 ^ 12 := by
  intro y s hy hv hs hn hE1
  obtain ⟨E,hE⟩ : ∃ E,y / 2 ^ 52 % 2048 = E := ⟨_,rfl⟩
  have hyv := fval_norm hy hE1
  have hpos : 0 < fval y := by rw [← hv]; exact Int.mul_pos h0 (Int.pow_pos (by omega))
  have hng : fneg y = false := by
   cases h : fneg y
   ·rfl
   ·rw [hyv,h] at hpos; unfold sgn at hpos; rw [if_pos rfl] at hpos; omega
  obtain ⟨F,hF⟩ : ∃ F : Nat,F = 1022 := ⟨_,rfl⟩
  have hsv := fval_setE (F := F) hy (by omega) (by omega)
  rw [show F - 1 = e1021 by have := e1021_eq; omega,hF] at hsv
  rw [hng] at hsv hyv
  have cast : ∀ (a b : Nat),sgn false (a * 2 ^ b) = (a : Int) * 2 ^ b := fun a b => by show ((a * 2 ^ b : Nat) : Int) = _; simp
  rw [cast] at hsv hyv
  refine ⟨setE y 1022,2 ^ 52 + y % 2 ^ 52,E + 51 - s + (52 - 52),?_,setE_lt _ _ hy.1 (by omega),hsv,by omega,by omega,?_,by omega⟩
  ·intro w
   have := Frexp_of x _ _ (fun w => frexp_n x y (-(s : Int)) hx hy hf0 hn E hE (by omega) (by omega) w) w
   rw [show -(s : Int) + ((E : Int) - 1023 + 1) = ((E + 51 - s + (52 - 52) : Nat) : Int) - 1073 by omega] at this
   exact this
  ·apply Int.eq_of_mul_eq_mul_right (Int.ne_of_gt (Int.pow_pos (by omega) : (0 : Int) < 2 ^ s))
   rw [Int.mul_assoc,Int.mul_comm (2 ^ 52),← Int.mul_assoc,hv,hyv,hE,Int.mul_assoc,Int.mul_assoc,← Int.pow_add,← Int.pow_add]
   congr 2; omega
 by_cases hs : x / 2 ^ 52 % 2048 = 0
 ·rw [show flt (x % 2 ^ 63) 4503599627370496 = true by rw [flt_norm hx]; simpa using hs] at hn
  obtain ⟨u1,u2,u3⟩ := up_norm hx hs (by omega)
  exact core _ 52 u1 u2.symm (by omega) hn u3
 ·rw [show flt (x % 2 ^ 63) 4503599627370496 = false by rw [flt_norm hx]; simpa using hs] at hn
  exact core x 0 hx (by simp) (by omega) hn (by omega)
def gridE : Nat := 974
theorem gridE_eq : gridE = 974 := rfl
def coordB (x : Nat) : Bool := fle (x % 2 ^ 63) 5057542381537067008 && decide ((fval x).natAbs % 2 ^ gridE = 0)
theorem fin_c100 : fin 5057542381537067008 := by unfold fin; omega
theorem fval_c100 : fval 5057542381537067008 = 2 ^ (unitE + 100) :=
 fval_pow (F := 1123) (by unfold fin; omega) (by omega) (by omega) (by omega) (by omega) rfl
theorem fin_of_le {x : Nat} (h64 : x < 2 ^ 64) (h : fle (x % 2 ^ 63) 5057542381537067008 = true) : fin x := by
 apply Classical.byContradiction
 intro hn
 have := abs_le_unfin hn h64 fin_c100
 unfold fle at h
 rw [this] at h; cases h
theorem le_of_le {x : Nat} (h64 : x < 2 ^ 64) (h : fle (x % 2 ^ 63) 5057542381537067008 = true) : (fval x).natAbs ≤ 2 ^ (unitE + 100) := by
 have hf := fin_of_le h64 h
 rw [fle_val (fin_abs hf) fin_c100,fval_abs,fval_c100] at h
 have h2 := of_decide_eq_true h
 have cast : ((2 ^ (unitE + 100) : Nat) : Int) = (2 : Int) ^ (unitE + 100) := by simp
 rw [← cast] at h2
 omega
theorem up100 {x : Nat} (h64 : x < 2 ^ 64) (h : fle (x % 2 ^ 63) 5057542381537067008 = true) :
  fin (fmul x 5057542381537067008) ∧ fval (fmul x 5057542381537067008) = fval x * 2 ^ 100 := by
 have hf := fin_of_le h64 h
 have hl := le_of_le h64 h
 have hr : rep (fval x * 2 ^ 100) := rep_scale (rep_fval x) 100
 have ht := top_eq
 have hu := unitE_eq
 have hi : inReach (fval x * 2 ^ 100) := by
  refine inReach_le (k := unitE + 100 + 100) ?_ (by omega)
  rw [Int.natAbs_mul,natAbs_two_pow,Nat.pow_add 2 (unitE + 100)]
  exact Nat.mul_le_mul_right _ hl
 have hm := fmul_val hf fin_c100 (Z := fval x * 2 ^ 100) (by rw [fval_c100,Int.mul_assoc,← Int.pow_add,Nat.add_comm]) hi
 rw [rn_rep hr] at hm
 exact hm
theorem whole_up {x y : Nat} (h : fval y = fval x * 2 ^ 100) : decide ((fval y).natAbs % 2 ^ unitE = 0) = decide ((fval x).natAbs % 2 ^ gridE = 0) := by
 have e : (2 : Nat) ^ unitE = 2 ^ gridE * 2 ^ 100 := by
  rw [← Nat.pow_add,show gridE + 100 = unitE by have := gridE_eq; have := unitE_eq; omega]
 rw [h,Int.natAbs_mul,natAbs_two_pow,e,Nat.mul_mod_mul_right]
 apply decide_eq_decide.2
 have := two_pow_pos 100
 constructor
 ·intro h
  rcases Nat.mul_eq_zero.1 h with h | h
  ·exact h
  ·omega
 ·intro h; rw [h,Nat.zero_mul]
theorem feq_trunc {y : Nat} (hy : fin y) : feq y (ftrunc y) = decide ((fval y).natAbs % 2 ^ unitE = 0) := by
 rw [← ftrunc_eq hy]
 have h := (ftrunc_val hy).1
 show feq y (ftrunc y) = feq (ftrunc y) y
 rw [feq_val hy h,feq_val h hy]
 exact decide_eq_decide.2 ⟨Eq.symm,Eq.symm⟩
theorem admit_coordinate (x : Nat) (h64 : x < 2 ^ 64) (w : World) :
  Calls Tryz.prog 104 #[.float .f64 x] w fun e w' => e = .returned (.bool (coordB x)) ∧ w = w' := by
 unfold coordB
 have c1 := fin_c100
 cases h : fle (x % 2 ^ 63) 5057542381537067008
 ·clear c1
  go_enter Tryz.func104,Tryz.ntmps104
  go_wp2_with (go_at_call 130; refine (abs_any _ h64 _).mono ?_; rintro e w' ⟨rfl,rfl⟩)
  go_ret
  exact ⟨rfl,rfl⟩
 ·have hf := fin_of_le h64 h
  have hu := up100 h64 h
  have H : feq (fmul x 5057542381537067008) (ftrunc (fmul x 5057542381537067008)) = decide ((fval x).natAbs % 2 ^ gridE = 0) := by
   rw [feq_trunc hu.1,whole_up hu.2]
  have hu1 := hu.1
  have HH := Lib.hid H
  clear hu H
  go_enter Tryz.func104,Tryz.ntmps104
  go_wp2_with (first | (go_at_call 130; refine (abs_any _ h64 _).mono ?_; rintro e w' ⟨rfl,rfl⟩) | (go_at_call 136; refine (trunc_fin _ hu1 _).mono ?_; rintro e w' ⟨rfl,rfl⟩))
  go_ret
  exact ⟨by rw [← HH.out]; rfl,rfl⟩
theorem circle_may (x : Nat) (h64 : x < 2 ^ 64) (w : World) :
  Calls Tryz.prog 153 #[.float .f64 x] w fun e w' => e = .returned (.bool (coordB x)) ∧ w = w' := by
 unfold coordB
 have c1 := fin_c100
 cases h : fle (x % 2 ^ 63) 5057542381537067008
 ·clear c1
  go_enter Tryz.func153,Tryz.ntmps153
  go_wp2_with (go_at_call 130; refine (abs_any _ h64 _).mono ?_; rintro e w' ⟨rfl,rfl⟩)
  go_ret
  exact ⟨rfl,rfl⟩
 ·have hf := fin_of_le h64 h
  have hu := up100 h64 h
  have H : feq (fmul x 5057542381537067008) (ftrunc (fmul x 5057542381537067008)) = decide ((fval x).natAbs % 2 ^ gridE = 0) := by
   rw [feq_trunc hu.1,whole_up hu.2]
  have hu1 := hu.1
  have HH := Lib.hid H
  clear hu H
  go_enter Tryz.func153,Tryz.ntmps153
  go_wp2_with (first | (go_at_call 130; refine (abs_any _ h64 _).mono ?_; rintro e w' ⟨rfl,rfl⟩) | (go_at_call 136; refine (trunc_fin _ hu1 _).mono ?_; rintro e w' ⟨rfl,rfl⟩))
  go_ret
  exact ⟨by rw [← HH.out]; rfl,rfl⟩
theorem orient_coordinate (x : Nat) (h64 : x < 2 ^ 64) (w : World) :
  Calls Tryz.prog 132 #[.float .f64 x] w fun e w' => e = .returned (.bool (coordB x)) ∧ w = w' := by
 unfold coordB
 have c1 := fin_c100
 have ht := top_eq
 have hu := unitE_eq
 cases h : fle (x % 2 ^ 63) 5057542381537067008
 ·clear c1 ht hu
  go_enter Tryz.func132,Tryz.ntmps132
  go_wp2_with (go_at_call 130; refine (abs_any _ h64 _).mono ?_; rintro e w' ⟨rfl,rfl⟩)
  go_ret
  exact ⟨rfl,rfl⟩
 ·have hf := fin_of_le h64 h
  have hl := le_of_le h64 h
  obtain ⟨y,hc,hy,hv⟩ := Ldexp_exact x hf 100 (fval x * 2 ^ 100) 0 100 (by simp) (by omega) (by omega) (by omega) (by
   rw [Int.natAbs_mul,natAbs_two_pow]
   refine Nat.lt_of_le_of_lt (Nat.mul_le_mul_right _ hl) ?_
   rw [← Nat.pow_add]
   exact Nat.pow_lt_pow_right (by omega) (by omega))
  obtain ⟨z,hc2,hz,hv2⟩ := Ldexp_exact y hy (-100) (fval x) 100 0 (by rw [hv]; simp) (by omega) (by omega) (by omega) (fval_lt_top hf)
  have H1 : feq (ftrunc y) y = decide ((fval x).natAbs % 2 ^ gridE = 0) := by
   rw [← whole_up hv]; exact ftrunc_eq hy
  have H2 : feq z x = true := by rw [feq_val hz hf,hv2]; simp
  have HC := Lib.hid hc
  have HC2 := Lib.hid hc2
  clear hc hc2 ht hu hv hv2
  cases hd : decide ((fval x).natAbs % 2 ^ gridE = 0)
  all_goals
   rw [hd] at H1
   clear hd
   go_enter Tryz.func132,Tryz.ntmps132
   go_wp2_with (first | (go_at_call 130; refine (abs_any _ h64 _).mono ?_; rintro e w' ⟨rfl,rfl⟩) | (go_at_call 136; refine (trunc_fin _ hy _).mono ?_; rintro e w' ⟨rfl,rfl⟩) | (go_at_call 184; (first | (with_reducible refine (HC.out _).mono ?_) | (with_reducible refine (HC2.out _).mono ?_)); rintro e w' ⟨rfl,rfl⟩))
   go_ret
   exact ⟨rfl,rfl⟩
end Go.Proofs.YtbagikgpgdlkcaaGreatDoor
