/- math, expand, eft: the walks of the small functions. No conditions. -/
import Derived.Test.YthookkmgmholcaaGreatDoorZ1
import Derived.Laws.BitsAllLaws
import Derived.Lib.Hide

/- Walks: the small functions of math. -/
namespace Go.Proofs.YthookkmgmholcaaGreatDoor
open Go.RowKit Tvf

theorem andNot_top (x : Nat) (hx : x < 2 ^ 64) : bits .andNot .u64 (x : Int) 9223372036854775808 = ((x % 2 ^ 63 : Nat) : Int) := by
  rw [u64_andNot _ _ (by omega) (by omega) (by omega) (by omega)]
  show ((x &&& (2 ^ 63 - 1) : Nat) : Int) = _
  rw [Nat.and_two_pow_sub_one_eq_mod]

set_option maxRecDepth 100000 in
set_option maxHeartbeats 400000 in
theorem abs_any (x : Nat) (hx : x < 2 ^ 64) (w : World) :
    Calls Tryz.prog 140 #[.float .f64 x] w fun e w' => e = .returned (.float .f64 (x % 2 ^ 63)) ∧ w = w' := by
  have H := andNot_top x hx
  clear hx
  go_enter Tryz.func140, Tryz.ntmps140
  go_wp2
  go_ret
  exact ⟨rfl, rfl⟩

set_option maxRecDepth 100000 in
set_option maxHeartbeats 400000 in
theorem isNaN_fin (x : Nat) (hx : fin x) (w : World) :
    Calls Tryz.prog 247 #[.float .f64 x] w fun e w' => e = .returned (.bool false) ∧ w = w' := by
  have H : fne x x = false := by rw [fne_val hx hx]; simp
  clear hx
  go_enter Tryz.func247, Tryz.ntmps247
  go_wp2
  go_ret
  exact ⟨rfl, rfl⟩

set_option maxRecDepth 100000 in
set_option maxHeartbeats 400000 in
theorem trunc_fin (x : Nat) (hx : fin x) (w : World) :
    Calls Tryz.prog 146 #[.float .f64 x] w fun e w' => e = .returned (.float .f64 (ftrunc x)) ∧ w = w' := by
  have H := ext_trunc x (by
    obtain ⟨m, k, e1, v1, hm⟩ := read_fin hx
    show (D.read x).isNaN = false
    rw [e1]; rfl)
  have H2 : FloatKind.f64.encode ((FloatKind.f64.decode x).integral .zero) = ftrunc x := rfl
  clear hx
  go_enter Tryz.func146, Tryz.ntmps146
  go_wp2
  go_ret
  exact ⟨rfl, rfl⟩

set_option maxRecDepth 100000 in
set_option maxHeartbeats 400000 in
theorem normalize_fin (x : Nat) (hx : fin x) (w : World) :
    Calls Tryz.prog 248 #[.float .f64 x] w fun e w' => e = .returned (if flt (x % 2 ^ 63) 4503599627370496 then .tuple #[.float .f64 (fmul x 4841369599423283200), .int .i64 (-52)] else .tuple #[.float .f64 x, .int .i64 0]) ∧ w = w' := by
  have hc : fin 4841369599423283200 := by unfold fin; omega
  cases h : flt (x % 2 ^ 63) 4503599627370496
  all_goals
    go_enter Tryz.func248, Tryz.ntmps248
    go_wp2_with (go_at_call 140; refine (abs_any _ hx.1 _).mono ?_; rintro e w' ⟨rfl, rfl⟩)
    go_ret2
    exact ⟨rfl, rfl⟩


theorem not_gt_max {x : Nat} (hx : fin x) : fgt (x % 2 ^ 63) 9218868437227405311 = false := by
  have hc : fin 9218868437227405311 := by unfold fin; omega
  rw [fgt_val (fin_abs hx) hc, fval_nonneg_of_lt (x := x % 2 ^ 63) (by omega), fval_nonneg_of_lt (x := 9218868437227405311) (by omega)]
  have := mg_le (r := x % 2 ^ 63) (s := 9218868437227405311) (by have := hx.2; omega)
  simp; omega

set_option maxRecDepth 100000 in
set_option maxHeartbeats 400000 in
theorem isInf_fin (x : Nat) (hx : fin x) (w : World) :
    Calls Tryz.prog 246 #[.float .f64 x, .int .i64 0] w fun e w' => e = .returned (.bool false) ∧ w = w' := by
  have H := not_gt_max hx
  go_enter Tryz.func246, Tryz.ntmps246
  go_wp2_with (go_at_call 140; refine (abs_any _ hx.1 _).mono ?_; rintro e w' ⟨rfl, rfl⟩)
  go_ret
  exact ⟨rfl, rfl⟩

/-- the exponent's field laid anew -/
def setE (b F : Nat) : Nat := b / 2 ^ 63 * 2 ^ 63 + F * 2 ^ 52 + b % 2 ^ 52

theorem bits_and_i64 (a b : Nat) (ha : a < 2 ^ 63) (hb : b < 2 ^ 63) : bits .and .i64 (a : Int) (b : Int) = ((a &&& b : Nat) : Int) := by
  unfold bits
  have ea : BitVec.ofInt IntKind.i64.bits (a : Int) = BitVec.ofNat 64 a := by
    show BitVec.ofInt 64 (a : Int) = _
    exact BitVec.ofInt_natCast 64 a
  have eb : BitVec.ofInt IntKind.i64.bits (b : Int) = BitVec.ofNat 64 b := by
    show BitVec.ofInt 64 (b : Int) = _
    exact BitVec.ofInt_natCast 64 b
  simp only [ea, eb]
  have h : (BitVec.ofNat 64 a &&& BitVec.ofNat 64 b).toNat = a &&& b := by
    rw [BitVec.toNat_and, BitVec.toNat_ofNat, BitVec.toNat_ofNat, Nat.mod_eq_of_lt (by omega), Nat.mod_eq_of_lt (by omega)]
  show IntKind.i64.wrap ((BitVec.ofNat 64 a &&& BitVec.ofNat 64 b).toNat : Int) = _
  rw [h]
  have h2 : a &&& b ≤ a := Nat.and_le_left
  rw [IntKind.wrap_i64]
  omega

theorem and_2047 (n : Nat) (h : n < 2 ^ 63) : bits .and .i64 (n : Int) 2047 = ((n % 2048 : Nat) : Int) := by
  have := bits_and_i64 n 2047 h (by omega)
  rw [show ((2047 : Nat) : Int) = 2047 from rfl] at this
  rw [this]
  show ((n &&& (2 ^ 11 - 1) : Nat) : Int) = _
  rw [Nat.and_two_pow_sub_one_eq_mod]

theorem and_fieldmask (x : Nat) (hx : x < 2 ^ 64) : (x &&& (18446744073709551615 - 9218868437227405312) : Nat) = x / 2 ^ 63 * 2 ^ 63 + x % 2 ^ 52 := by
  show (x &&& 9227875636482146303) = _
  have hm : (9227875636482146303 : Nat) = 2 ^ 63 ||| (2 ^ 52 - 1) := by decide
  rw [hm, Nat.and_or_distrib_left, Nat.and_two_pow_sub_one_eq_mod]
  have h1 : x &&& 2 ^ 63 = x / 2 ^ 63 * 2 ^ 63 := by
    apply Nat.eq_of_testBit_eq
    intro i
    rw [Nat.testBit_and, Nat.testBit_two_pow]
    by_cases h : x < 2 ^ 63
    · rw [Nat.div_eq_of_lt h, Nat.zero_mul, Nat.zero_testBit]
      by_cases hi : 63 = i
      · subst hi; rw [Nat.testBit_lt_two_pow h]; rfl
      · simp [hi]
    · have : x / 2 ^ 63 = 1 := by omega
      rw [this, Nat.one_mul, Nat.testBit_two_pow]
      by_cases hi : 63 = i
      · subst hi
        have : x = 2 ^ 63 + (x - 2 ^ 63) := by omega
        rw [this, Nat.testBit_two_pow_add_eq, Nat.testBit_lt_two_pow (show x - 2 ^ 63 < 2 ^ 63 by omega)]; rfl
      · simp [hi]
  rw [h1, Nat.mul_comm]
  exact (Nat.two_pow_add_eq_or_of_lt (i := 63) (by omega) (x / 2 ^ 63)).symm

theorem or_fields (s m F : Nat) (hm : m < 2 ^ 52) (hF : F < 2048) : (s * 2 ^ 63 + m) ||| (F * 2 ^ 52) = s * 2 ^ 63 + F * 2 ^ 52 + m := by
  rw [Nat.mul_comm s, Nat.two_pow_add_eq_or_of_lt (by omega), Nat.or_assoc, Nat.or_comm m, Nat.mul_comm F, ← Nat.two_pow_add_eq_or_of_lt hm, ← Nat.two_pow_add_eq_or_of_lt (by omega)]
  omega

theorem or_field (x F : Nat) (hx : x < 2 ^ 64) (hF : F < 2048) : bits .or .u64 (bits .andNot .u64 (x : Int) 9218868437227405312) ((F : Int) * 4503599627370496) = (setE x F : Int) := by
  rw [u64_andNot _ _ (by omega) (by omega) (by omega) (by omega)]
  have e1 : ((x : Int).toNat &&& (18446744073709551615 - (9218868437227405312 : Int).toNat) : Nat) = x / 2 ^ 63 * 2 ^ 63 + x % 2 ^ 52 := and_fieldmask x hx
  rw [e1, show (F : Int) * 4503599627370496 = ((F * 2 ^ 52 : Nat) : Int) by omega]
  rw [u64_or _ _ (by omega) (by omega) (by omega) (by omega)]
  unfold setE
  rw [Int.toNat_natCast, Int.toNat_natCast, or_fields _ _ _ (by omega) hF]

theorem setE_lt (x F : Nat) (hx : x < 2 ^ 64) (hF : F < 2047) : fin (setE x F) := by unfold fin setE; omega

set_option maxRecDepth 100000 in
set_option maxHeartbeats 400000 in
theorem ldexp_n (x y : Nat) (k e0 : Int) (hx : fin x) (hy : fin y) (h0 : feq x 0 = false) (hn : ∀ w, Calls Tryz.prog 248 #[.float .f64 x] w fun e w' => e = .returned (.tuple #[.float .f64 y, .int .i64 e0]) ∧ w = w') (E : Nat) (hE : y / 2 ^ 52 % 2048 = E) (hk1 : -52 ≤ k + e0 + E) (hk2 : k + e0 + E ≤ 2046) (hk3 : -5000 ≤ k) (hk4 : k ≤ 5000) (hk5 : -5000 ≤ e0) (hk6 : e0 ≤ 5000) (w : World) :
    Calls Tryz.prog 226 #[.float .f64 x, .int .i64 k] w fun e w' => e = .returned (.float .f64 (if 1 ≤ k + e0 + E then fmul 4607182418800017408 (setE y (k + e0 + E).toNat) else fmul 4368491638549381120 (setE y (k + e0 + E + 53).toNat))) ∧ w = w' := by
  have H1 : bits .and .i64 (wrap64 ((y : Int) / 4503599627370496)) 2047 = (E : Int) := by
    rw [show wrap64 ((y : Int) / 4503599627370496) = ((y / 2 ^ 52 : Nat) : Int) by unfold wrap64; have := hy.1; omega, and_2047 _ (by have := hy.1; omega), hE]
  have H2 : 1 ≤ k + e0 + E → bits .or .u64 (bits .andNot .u64 (y : Int) 9218868437227405312) ((k + e0 + ((E : Int) - 1023) + 1023) * 4503599627370496) = (setE y (k + e0 + E).toNat : Int) := by
    intro h; rw [← or_field y _ hy.1 (by omega)]; congr 2; omega
  have H3 : ¬ 1 ≤ k + e0 + E → bits .or .u64 (bits .andNot .u64 (y : Int) 9218868437227405312) ((k + e0 + ((E : Int) - 1023) + 53 + 1023) * 4503599627370496) = (setE y (k + e0 + E + 53).toNat : Int) := by
    intro h; rw [← or_field y _ hy.1 (by omega)]; congr 2; omega
  have hE2 : E < 2048 := by omega
  have c1 : fin 4607182418800017408 := by unfold fin; omega
  have c2 : fin 4368491638549381120 := by unfold fin; omega
  have c3 : 1 ≤ k + e0 + E → fin (setE y (k + e0 + E).toNat) := fun h => setE_lt _ _ hy.1 (by omega)
  have c4 : ¬ 1 ≤ k + e0 + E → fin (setE y (k + e0 + E + 53).toNat) := fun h => setE_lt _ _ hy.1 (by omega)
  have HN := Lib.hid hn
  clear hE hn
  by_cases hh : 1 ≤ k + e0 + E
  · have H := H2 hh
    have c := c3 hh
    rw [if_pos hh]
    clear H2 H3 c3 c4
    go_enter Tryz.func226, Tryz.ntmps226
    go_wp2_with (first | (go_at_call 246; refine (isInf_fin _ hx _).mono ?_; rintro e w' ⟨rfl, rfl⟩) | (go_at_call 247; refine (isNaN_fin _ hx _).mono ?_; rintro e w' ⟨rfl, rfl⟩) | (go_at_call 248; refine (HN.out _).mono ?_; rintro e w' ⟨rfl, rfl⟩))
    go_ret
    exact ⟨rfl, rfl⟩
  · have H := H3 hh
    have c := c4 hh
    rw [if_neg hh]
    clear H2 H3 c3 c4
    go_enter Tryz.func226, Tryz.ntmps226
    go_wp2_with (first | (go_at_call 246; refine (isInf_fin _ hx _).mono ?_; rintro e w' ⟨rfl, rfl⟩) | (go_at_call 247; refine (isNaN_fin _ hx _).mono ?_; rintro e w' ⟨rfl, rfl⟩) | (go_at_call 248; refine (HN.out _).mono ?_; rintro e w' ⟨rfl, rfl⟩))
    go_ret
    exact ⟨rfl, rfl⟩

end Go.Proofs.YthookkmgmholcaaGreatDoor

/- math.Ldexp where what comes of it is a double. -/
namespace Go.Proofs.YthookkmgmholcaaGreatDoor
open Go.RowKit Tvf

/-- a normal word by its fields -/
theorem mg_norm (s E m : Nat) (hE1 : 1 ≤ E) (hE2 : E < 2048) (hm : m < 2 ^ 52) :
    (s * 2 ^ 63 + E * 2 ^ 52 + m) % 2 ^ 63 = E * 2 ^ 52 + m ∧ mg (E * 2 ^ 52 + m) = (2 ^ 52 + m) * 2 ^ (E - 1) := by
  refine ⟨by omega, ?_⟩
  unfold mg
  rw [if_neg (by omega), show (E * 2 ^ 52 + m) % 2 ^ 52 = m by omega, show (E * 2 ^ 52 + m) / 2 ^ 52 = E by omega]

/-- the value of a normal word -/
theorem fval_norm {y : Nat} (hy : fin y) (h1 : 1 ≤ y / 2 ^ 52 % 2048) : fval y = sgn (fneg y) ((2 ^ 52 + y % 2 ^ 52) * 2 ^ (y / 2 ^ 52 % 2048 - 1)) := by
  have hy2 := hy.1
  have h := mg_norm (y / 2 ^ 63) (y / 2 ^ 52 % 2048) (y % 2 ^ 52) h1 (by omega) (by omega)
  rw [show y / 2 ^ 63 * 2 ^ 63 + y / 2 ^ 52 % 2048 * 2 ^ 52 + y % 2 ^ 52 = y by omega] at h
  rw [fval_eq, h.1, h.2]

theorem fval_setE {y F : Nat} (hy : fin y) (hF1 : 1 ≤ F) (hF2 : F < 2047) : fval (setE y F) = sgn (fneg y) ((2 ^ 52 + y % 2 ^ 52) * 2 ^ (F - 1)) := by
  have hy2 := hy.1
  have hf := setE_lt y F hy.1 hF2
  have e1 : setE y F / 2 ^ 52 % 2048 = F := by unfold setE; omega
  have e2 : setE y F % 2 ^ 52 = y % 2 ^ 52 := by unfold setE; omega
  have e3 : fneg (setE y F) = fneg y := by
    unfold fneg
    rw [show setE y F / 2 ^ 63 = y / 2 ^ 63 by unfold setE; omega]
  rw [fval_norm hf (by omega), e1, e2, e3]

/-- a power of two -/
theorem fval_pow {y F k : Nat} (hf : fin y) (hs : y < 2 ^ 63) (hF : y / 2 ^ 52 % 2048 = F) (h1 : 1 ≤ F) (hm : y % 2 ^ 52 = 0) (hk : k = 51 + F) : fval y = 2 ^ k := by
  rw [fval_norm hf (by omega), hF, hm, Nat.add_zero, ← Nat.pow_add, show 52 + (F - 1) = k by omega]
  have : fneg y = false := by unfold fneg; rw [show y / 2 ^ 63 % 2 = 0 by omega]; rfl
  rw [this]
  show ((2 ^ k : Nat) : Int) = _
  simp

theorem fval_one : fval 4607182418800017408 = 2 ^ unitE :=
  fval_pow (F := 1023) (by unfold fin; omega) (by omega) (by omega) (by omega) (by omega) rfl

theorem fval_small : ∃ c : Nat, c + 53 = unitE ∧ fval 4368491638549381120 = 2 ^ c :=
  ⟨51 + 970, rfl, fval_pow (F := 970) (by unfold fin; omega) (by omega) (by omega) (by omega) (by omega) rfl⟩

theorem sgn_natAbs' (s : Bool) (n : Nat) : (sgn s n).natAbs = n := by unfold sgn; split <;> simp

theorem pow_split (a b : Nat) (h : a ≤ b) : (2 : Int) ^ b = 2 ^ (b - a) * 2 ^ a := by
  rw [← Int.pow_add, show b - a + a = b by omega]

/-- the core: out of a normal word -/
theorem ldexp_core {y : Nat} (hy : fin y) (E : Nat) (hE : y / 2 ^ 52 % 2048 = E) (hE1 : 1 ≤ E) (Y t : Int) (a b : Nat) (hY : fval y * 2 ^ b = Y * 2 ^ a) (ht : t = (b : Int) - a + E) (h0 : Y ≠ 0) (htop : Y.natAbs < 2 ^ top) :
    -52 ≤ t ∧ t ≤ 2046 ∧ fin (if 1 ≤ t then fmul 4607182418800017408 (setE y t.toNat) else fmul 4368491638549381120 (setE y (t + 53).toNat)) ∧
      fval (if 1 ≤ t then fmul 4607182418800017408 (setE y t.toNat) else fmul 4368491638549381120 (setE y (t + 53).toNat)) = Y := by
  have hv := fval_norm hy (by omega)
  rw [hE] at hv
  have hM1 : 2 ^ 52 ≤ 2 ^ 52 + y % 2 ^ 52 := by omega
  have hM2 : 2 ^ 52 + y % 2 ^ 52 < 2 ^ 53 := by omega
  have hset : ∀ F, 1 ≤ F → F < 2047 → fval (setE y F) = sgn (fneg y) ((2 ^ 52 + y % 2 ^ 52) * 2 ^ (F - 1)) := fun F h1 h2 => fval_setE hy h1 h2
  generalize 2 ^ 52 + y % 2 ^ 52 = M at *
  have habs : M * 2 ^ (E - 1 + b) = Y.natAbs * 2 ^ a := by
    have := congrArg Int.natAbs hY
    rw [Int.natAbs_mul, Int.natAbs_mul, natAbs_two_pow, natAbs_two_pow, hv, sgn_natAbs', Nat.mul_assoc, ← Nat.pow_add] at this
    exact this
  have t1 : -52 ≤ t := by
    have p1 : M * 2 ^ (E - 1 + b) < 2 ^ 53 * 2 ^ (E - 1 + b) := Nat.mul_lt_mul_of_pos_right hM2 (two_pow_pos _)
    have p2 : 2 ^ a ≤ Y.natAbs * 2 ^ a := Nat.le_mul_of_pos_left _ (by omega)
    rw [← Nat.pow_add] at p1
    have := (Nat.pow_lt_pow_iff_right (show 1 < 2 by omega)).1 (Nat.lt_of_le_of_lt (Nat.le_trans p2 (Nat.le_of_eq habs.symm)) p1)
    omega
  have t2 : t ≤ 2046 := by
    have p1 : 2 ^ 52 * 2 ^ (E - 1 + b) ≤ M * 2 ^ (E - 1 + b) := Nat.mul_le_mul_right _ hM1
    have p2 : Y.natAbs * 2 ^ a < 2 ^ top * 2 ^ a := Nat.mul_lt_mul_of_pos_right htop (two_pow_pos _)
    rw [← Nat.pow_add] at p1 p2
    have := (Nat.pow_lt_pow_iff_right (show 1 < 2 by omega)).1 (Nat.lt_of_le_of_lt p1 (Nat.lt_of_le_of_lt (Nat.le_of_eq habs) p2))
    have := top_eq
    omega
  refine ⟨t1, t2, ?_⟩
  have c1 : fin 4607182418800017408 := by unfold fin; omega
  have c2 : fin 4368491638549381120 := by unfold fin; omega
  have hYr : rep Y := by
    have : rep (Y * 2 ^ a) := by rw [← hY]; exact rep_scale (rep_fval y) b
    exact rep_of_scale this
  have sg : ∀ n c : Nat, sgn (fneg y) (n * 2 ^ c) = sgn (fneg y) n * 2 ^ c := fun n c => sgn_mul_pow _ _ _
  have hS : sgn (fneg y) M * 2 ^ (E - 1 + b) = Y * 2 ^ a := by
    rw [← hY, hv, sg, Int.mul_assoc, ← Int.pow_add]
  have hp : ∀ k : Nat, (2 : Int) ^ k ≠ 0 := fun k => Int.ne_of_gt (Int.pow_pos (by omega))
  by_cases h : 1 ≤ t
  · rw [if_pos h]
    have hf := setE_lt y t.toNat hy.1 (by omega)
    have hval := hset t.toNat (by omega) (by omega)
    have hval2 : fval (setE y t.toNat) = Y := by
      rw [hval, sg]
      have e := pow_split a (E - 1 + b) (by omega)
      rw [e, ← Int.mul_assoc] at hS
      have := Int.eq_of_mul_eq_mul_right (hp a) hS
      rw [← this, show t.toNat - 1 = E - 1 + b - a by omega]
    have := fmul_val c1 hf (Z := Y) (by rw [fval_one, hval2, Int.mul_comm]) (inReach_of htop hYr)
    rw [rn_rep hYr] at this
    exact this
  · rw [if_neg h]
    obtain ⟨c, hc, hcv⟩ := fval_small
    have hf := setE_lt y (t + 53).toNat hy.1 (by omega)
    have hval := hset (t + 53).toNat (by omega) (by omega)
    have hz : fval 4368491638549381120 * fval (setE y (t + 53).toNat) = Y * 2 ^ unitE := by
      rw [hcv, hval, sg, Int.mul_comm, Int.mul_assoc, ← Int.pow_add]
      -- both sides times 2 ^ a
      apply Int.eq_of_mul_eq_mul_right (hp a)
      rw [Int.mul_assoc, ← Int.pow_add, Int.mul_assoc, Int.mul_comm (2 ^ unitE), ← Int.mul_assoc, ← hS, Int.mul_assoc, ← Int.pow_add]
      congr 2
      omega
    have := fmul_val c2 hf (Z := Y) hz (inReach_of htop hYr)
    rw [rn_rep hYr] at this
    exact this

theorem feq_zero {x : Nat} (hx : fin x) : feq x 0 = decide (fval x = 0) := by
  rw [feq_val hx (by unfold fin; omega)]; rfl

set_option maxRecDepth 100000 in
set_option maxHeartbeats 400000 in
theorem ldexp_zero (x : Nat) (k : Int) (h0 : feq x 0 = true) (w : World) :
    Calls Tryz.prog 226 #[.float .f64 x, .int .i64 k] w fun e w' => e = .returned (.float .f64 x) ∧ w = w' := by
  go_enter Tryz.func226, Tryz.ntmps226
  go_wp2
  go_ret
  exact ⟨rfl, rfl⟩

set_option maxRecDepth 100000 in
set_option maxHeartbeats 400000 in
theorem Ldexp_of (x r : Nat) (k : Int) (h : ∀ w, Calls Tryz.prog 226 #[.float .f64 x, .int .i64 k] w fun e w' => e = .returned (.float .f64 r) ∧ w = w') (w : World) :
    Calls Tryz.prog 193 #[.float .f64 x, .int .i64 k] w fun e w' => e = .returned (.float .f64 r) ∧ w = w' := by
  have H := Lib.hid h
  clear h
  go_enter Tryz.func193, Tryz.ntmps193
  go_wp2_with (go_at_call 226; refine (H.out _).mono ?_; rintro e w' ⟨rfl, rfl⟩)
  go_ret
  exact ⟨rfl, rfl⟩

/-- the least normal number -/
theorem flt_norm {x : Nat} (hx : fin x) : flt (x % 2 ^ 63) 4503599627370496 = decide (x / 2 ^ 52 % 2048 = 0) := by
  have hc : fin 4503599627370496 := by unfold fin; omega
  have hx1 := hx.1
  rw [flt_val (fin_abs hx) hc, fval_nonneg_of_lt (x := x % 2 ^ 63) (by omega), fval_nonneg_of_lt (x := 4503599627370496) (by omega)]
  apply decide_eq_decide.2
  constructor
  · intro h
    apply Classical.byContradiction
    intro hc
    have := mg_le (r := 4503599627370496) (s := x % 2 ^ 63) (by omega)
    omega
  · intro h
    have := mg_lt (r := x % 2 ^ 63) (s := 4503599627370496) (by omega)
    omega

theorem fval_p52 : fval 4841369599423283200 = 2 ^ (unitE + 52) :=
  fval_pow (F := 1075) (by unfold fin; omega) (by omega) (by omega) (by omega) (by omega) rfl

/-- a number that is not normal, times 2^52, is -/
theorem up_norm {x : Nat} (hx : fin x) (h : x / 2 ^ 52 % 2048 = 0) (h0 : fval x ≠ 0) :
    fin (fmul x 4841369599423283200) ∧ fval (fmul x 4841369599423283200) = fval x * 2 ^ 52 ∧ 1 ≤ fmul x 4841369599423283200 / 2 ^ 52 % 2048 := by
  have hc : fin 4841369599423283200 := by unfold fin; omega
  have hx1 := hx.1
  have hsm : (fval x).natAbs < 2 ^ 52 := by
    rw [natAbs_fval]; unfold mg; rw [if_pos (by omega)]; omega
  have hr : rep (fval x * 2 ^ 52) := rep_of 52 (by omega)
  have hle : (fval x * 2 ^ 52).natAbs ≤ 2 ^ 104 := by omega
  have ht := top_eq
  have hi := inReach_le hle (by omega)
  have hm := fmul_val hx hc (Z := fval x * 2 ^ 52) (by rw [fval_p52, Int.mul_assoc, ← Int.pow_add, Nat.add_comm]) hi
  rw [rn_rep hr] at hm
  refine ⟨hm.1, hm.2, ?_⟩
  apply Classical.byContradiction
  intro hn
  have hy := hm.1.1
  have : (fval (fmul x 4841369599423283200)).natAbs < 2 ^ 52 := by
    rw [natAbs_fval]; unfold mg; rw [if_pos (by omega)]; omega
  rw [hm.2] at this
  omega

/-- math.Ldexp, where the result is a double -/
theorem Ldexp_exact (x : Nat) (hx : fin x) (k Y : Int) (a b : Nat) (hY : fval x * 2 ^ b = Y * 2 ^ a) (hk : k = (b : Int) - a) (hk3 : -4900 ≤ k) (hk4 : k ≤ 4900) (htop : Y.natAbs < 2 ^ top) :
    ∃ r, (∀ w, Calls Tryz.prog 193 #[.float .f64 x, .int .i64 k] w fun e w' => e = .returned (.float .f64 r) ∧ w = w') ∧ fin r ∧ fval r = Y := by
  have hp : ∀ k : Nat, (2 : Int) ^ k ≠ 0 := fun k => Int.ne_of_gt (Int.pow_pos (by omega))
  by_cases h0 : fval x = 0
  · refine ⟨x, fun w => Ldexp_of x x k (fun w => ldexp_zero x k (by rw [feq_zero hx]; simpa using h0) w) w, hx, ?_⟩
    rw [h0, Int.zero_mul] at hY
    rw [h0]
    rcases Int.mul_eq_zero.1 hY.symm with h | h
    · exact h.symm
    · exact absurd h (hp a)
  · have hf0 : feq x 0 = false := by rw [feq_zero hx]; simpa using h0
    have hY0 : Y ≠ 0 := by
      rintro rfl
      rw [Int.zero_mul] at hY
      rcases Int.mul_eq_zero.1 hY with h | h
      · exact h0 h
      · exact hp b h
    have hn := normalize_fin x hx
    have hx1 := hx.1
    by_cases hs : x / 2 ^ 52 % 2048 = 0
    · rw [show flt (x % 2 ^ 63) 4503599627370496 = true by rw [flt_norm hx]; simpa using hs] at hn
      obtain ⟨u1, u2, u3⟩ := up_norm hx hs h0
      obtain ⟨E, hE⟩ : ∃ E, fmul x 4841369599423283200 / 2 ^ 52 % 2048 = E := ⟨_, rfl⟩
      have hc := ldexp_core u1 E hE (by omega) Y (k + -52 + E) (a + 52) b (by rw [u2, Int.mul_assoc, Int.mul_comm (2 ^ 52), ← Int.mul_assoc, hY, Int.mul_assoc, ← Int.pow_add]) (by omega) hY0 htop
      exact ⟨_, fun w => Ldexp_of _ _ _ (fun w => ldexp_n x _ k (-52) hx u1 hf0 hn E hE hc.1 hc.2.1 (by omega) (by omega) (by omega) (by omega) w) w, hc.2.2⟩
    · rw [show flt (x % 2 ^ 63) 4503599627370496 = false by rw [flt_norm hx]; simpa using hs] at hn
      obtain ⟨E, hE⟩ : ∃ E, x / 2 ^ 52 % 2048 = E := ⟨_, rfl⟩
      have hc := ldexp_core hx E hE (by omega) Y (k + 0 + E) a b hY (by omega) hY0 htop
      exact ⟨_, fun w => Ldexp_of _ _ _ (fun w => ldexp_n x _ k 0 hx hx hf0 hn E hE hc.1 hc.2.1 (by omega) (by omega) (by omega) (by omega) w) w, hc.2.2⟩

end Go.Proofs.YthookkmgmholcaaGreatDoor

/- math.Frexp of a double that is not nought. -/
namespace Go.Proofs.YthookkmgmholcaaGreatDoor
open Go.RowKit Tvf

theorem and_2047u (n : Nat) (h : n < 2 ^ 64) : bits .and .u64 (n : Int) 2047 = ((n % 2048 : Nat) : Int) := by
  rw [u64_and _ _ (by omega) (by omega) (by omega) (by omega)]
  show ((n &&& (2 ^ 11 - 1) : Nat) : Int) = _
  rw [Nat.and_two_pow_sub_one_eq_mod]

set_option maxRecDepth 100000 in
set_option maxHeartbeats 400000 in
theorem frexp_n (x y : Nat) (e0 : Int) (hx : fin x) (hy : fin y) (h0 : feq x 0 = false) (hn : ∀ w, Calls Tryz.prog 248 #[.float .f64 x] w fun e w' => e = .returned (.tuple #[.float .f64 y, .int .i64 e0]) ∧ w = w') (E : Nat) (hE : y / 2 ^ 52 % 2048 = E) (hk5 : -5000 ≤ e0) (hk6 : e0 ≤ 5000) (w : World) :
    Calls Tryz.prog 231 #[.float .f64 x] w fun e w' => e = .returned (.tuple #[.float .f64 (setE y 1022), .int .i64 (e0 + ((E : Int) - 1023 + 1))]) ∧ w = w' := by
  have H1 : bits .and .u64 ((y : Int) / 4503599627370496) 2047 = (E : Int) := by
    rw [show ((y : Int) / 4503599627370496) = ((y / 2 ^ 52 : Nat) : Int) by omega, and_2047u _ (by have := hy.1; omega), hE]
  have H2 : bits .or .u64 (bits .andNot .u64 (y : Int) 9218868437227405312) 4602678819172646912 = (setE y 1022 : Int) := by
    rw [← or_field y 1022 hy.1 (by omega)]; rfl
  have hE2 : E < 2048 := by omega
  have HN := Lib.hid hn
  clear hE hn
  go_enter Tryz.func231, Tryz.ntmps231
  go_wp2_with (first | (go_at_call 246; refine (isInf_fin _ hx _).mono ?_; rintro e w' ⟨rfl, rfl⟩) | (go_at_call 247; refine (isNaN_fin _ hx _).mono ?_; rintro e w' ⟨rfl, rfl⟩) | (go_at_call 248; refine (HN.out _).mono ?_; rintro e w' ⟨rfl, rfl⟩))
  go_ret2
  exact ⟨rfl, rfl⟩

set_option maxRecDepth 100000 in
set_option maxHeartbeats 400000 in
theorem Frexp_of (x f : Nat) (k : Int) (h : ∀ w, Calls Tryz.prog 231 #[.float .f64 x] w fun e w' => e = .returned (.tuple #[.float .f64 f, .int .i64 k]) ∧ w = w') (w : World) :
    Calls Tryz.prog 197 #[.float .f64 x] w fun e w' => e = .returned (.tuple #[.float .f64 f, .int .i64 k]) ∧ w = w' := by
  have H := Lib.hid h
  clear h
  go_enter Tryz.func197, Tryz.ntmps197
  go_wp2_with (go_at_call 231; refine (H.out _).mono ?_; rintro e w' ⟨rfl, rfl⟩)
  go_ret2
  exact ⟨rfl, rfl⟩

def e1021 : Nat := 1021
theorem e1021_eq : e1021 = 1021 := rfl

/-- math.Frexp of a number above nought -/
theorem Frexp_exact (x : Nat) (hx : fin x) (h0 : 0 < fval x) :
    ∃ (f M t : Nat), (∀ w, Calls Tryz.prog 197 #[.float .f64 x] w fun e w' => e = .returned (.tuple #[.float .f64 f, .int .i64 ((t : Int) - 1073)]) ∧ w = w') ∧
      fin f ∧ fval f = (M : Int) * 2 ^ e1021 ∧ 2 ^ 52 ≤ M ∧ M < 2 ^ 53 ∧ fval x * 2 ^ 52 = (M : Int) * 2 ^ t ∧ t < 2 ^ 12 := by
  have hf0 : feq x 0 = false := by rw [feq_zero hx]; simp; omega
  have hn := normalize_fin x hx
  have hx1 := hx.1
  have core : ∀ (y s : Nat) (hy : fin y), fval x * 2 ^ s = fval y → s ≤ 52 → (∀ w, Calls Tryz.prog 248 #[.float .f64 x] w fun e w' => e = .returned (.tuple #[.float .f64 y, .int .i64 (-(s : Int))]) ∧ w = w') → 1 ≤ y / 2 ^ 52 % 2048 →
      ∃ (f M t : Nat), (∀ w, Calls Tryz.prog 197 #[.float .f64 x] w fun e w' => e = .returned (.tuple #[.float .f64 f, .int .i64 ((t : Int) - 1073)]) ∧ w = w') ∧
        fin f ∧ fval f = (M : Int) * 2 ^ e1021 ∧ 2 ^ 52 ≤ M ∧ M < 2 ^ 53 ∧ fval x * 2 ^ 52 = (M : Int) * 2 ^ t ∧ t < 2 ^ 12 := by
    intro y s hy hv hs hn hE1
    obtain ⟨E, hE⟩ : ∃ E, y / 2 ^ 52 % 2048 = E := ⟨_, rfl⟩
    have hyv := fval_norm hy hE1
    have hpos : 0 < fval y := by rw [← hv]; exact Int.mul_pos h0 (Int.pow_pos (by omega))
    have hng : fneg y = false := by
      cases h : fneg y
      · rfl
      · rw [hyv, h] at hpos; unfold sgn at hpos; rw [if_pos rfl] at hpos; omega
    obtain ⟨F, hF⟩ : ∃ F : Nat, F = 1022 := ⟨_, rfl⟩
    have hsv := fval_setE (F := F) hy (by omega) (by omega)
    rw [show F - 1 = e1021 by have := e1021_eq; omega, hF] at hsv
    rw [hng] at hsv hyv
    have cast : ∀ (a b : Nat), sgn false (a * 2 ^ b) = (a : Int) * 2 ^ b := fun a b => by show ((a * 2 ^ b : Nat) : Int) = _; simp
    rw [cast] at hsv hyv
    refine ⟨setE y 1022, 2 ^ 52 + y % 2 ^ 52, E + 51 - s + (52 - 52), ?_, setE_lt _ _ hy.1 (by omega), hsv, by omega, by omega, ?_, by omega⟩
    · intro w
      have := Frexp_of x _ _ (fun w => frexp_n x y (-(s : Int)) hx hy hf0 hn E hE (by omega) (by omega) w) w
      rw [show -(s : Int) + ((E : Int) - 1023 + 1) = ((E + 51 - s + (52 - 52) : Nat) : Int) - 1073 by omega] at this
      exact this
    · apply Int.eq_of_mul_eq_mul_right (Int.ne_of_gt (Int.pow_pos (by omega) : (0 : Int) < 2 ^ s))
      rw [Int.mul_assoc, Int.mul_comm (2 ^ 52), ← Int.mul_assoc, hv, hyv, hE, Int.mul_assoc, Int.mul_assoc, ← Int.pow_add, ← Int.pow_add]
      congr 2; omega
  by_cases hs : x / 2 ^ 52 % 2048 = 0
  · rw [show flt (x % 2 ^ 63) 4503599627370496 = true by rw [flt_norm hx]; simpa using hs] at hn
    obtain ⟨u1, u2, u3⟩ := up_norm hx hs (by omega)
    exact core _ 52 u1 u2.symm (by omega) hn u3
  · rw [show flt (x % 2 ^ 63) 4503599627370496 = false by rw [flt_norm hx]; simpa using hs] at hn
    exact core x 0 hx (by simp) (by omega) hn (by omega)

end Go.Proofs.YthookkmgmholcaaGreatDoor

/- Which coordinates may be: the three functions that ask it, alike. -/
namespace Go.Proofs.YthookkmgmholcaaGreatDoor
open Go.RowKit Tvf

def gridE : Nat := 974
theorem gridE_eq : gridE = 974 := rfl
/-- may a coordinate be: no more than 2^100, a multiple of 2^-100 -/
def coordB (x : Nat) : Bool := fle (x % 2 ^ 63) 5057542381537067008 && decide ((fval x).natAbs % 2 ^ gridE = 0)

theorem fin_c100 : fin 5057542381537067008 := by unfold fin; omega
theorem fval_c100 : fval 5057542381537067008 = 2 ^ (unitE + 100) :=
  fval_pow (F := 1123) (by unfold fin; omega) (by omega) (by omega) (by omega) (by omega) rfl

theorem fin_of_le {x : Nat} (h64 : x < 2 ^ 64) (h : fle (x % 2 ^ 63) 5057542381537067008 = true) : fin x := by
  apply Classical.byContradiction
  intro hn
  have := abs_le_unfin hn h64 fin_c100
  unfold fle at h
  rw [this] at h; cases h

theorem le_of_le {x : Nat} (h64 : x < 2 ^ 64) (h : fle (x % 2 ^ 63) 5057542381537067008 = true) : (fval x).natAbs ≤ 2 ^ (unitE + 100) := by
  have hf := fin_of_le h64 h
  rw [fle_val (fin_abs hf) fin_c100, fval_abs, fval_c100] at h
  have h2 := of_decide_eq_true h
  have cast : ((2 ^ (unitE + 100) : Nat) : Int) = (2 : Int) ^ (unitE + 100) := by simp
  rw [← cast] at h2
  omega

/-- times 2^100 -/
theorem up100 {x : Nat} (h64 : x < 2 ^ 64) (h : fle (x % 2 ^ 63) 5057542381537067008 = true) :
    fin (fmul x 5057542381537067008) ∧ fval (fmul x 5057542381537067008) = fval x * 2 ^ 100 := by
  have hf := fin_of_le h64 h
  have hl := le_of_le h64 h
  have hr : rep (fval x * 2 ^ 100) := rep_scale (rep_fval x) 100
  have ht := top_eq
  have hu := unitE_eq
  have hi : inReach (fval x * 2 ^ 100) := by
    refine inReach_le (k := unitE + 100 + 100) ?_ (by omega)
    rw [Int.natAbs_mul, natAbs_two_pow, Nat.pow_add 2 (unitE + 100)]
    exact Nat.mul_le_mul_right _ hl
  have hm := fmul_val hf fin_c100 (Z := fval x * 2 ^ 100) (by rw [fval_c100, Int.mul_assoc, ← Int.pow_add, Nat.add_comm]) hi
  rw [rn_rep hr] at hm
  exact hm

theorem whole_up {x y : Nat} (h : fval y = fval x * 2 ^ 100) : decide ((fval y).natAbs % 2 ^ unitE = 0) = decide ((fval x).natAbs % 2 ^ gridE = 0) := by
  have e : (2 : Nat) ^ unitE = 2 ^ gridE * 2 ^ 100 := by
    rw [← Nat.pow_add, show gridE + 100 = unitE by have := gridE_eq; have := unitE_eq; omega]
  rw [h, Int.natAbs_mul, natAbs_two_pow, e, Nat.mul_mod_mul_right]
  apply decide_eq_decide.2
  have := two_pow_pos 100
  constructor
  · intro h
    rcases Nat.mul_eq_zero.1 h with h | h
    · exact h
    · omega
  · intro h; rw [h, Nat.zero_mul]

theorem feq_trunc {y : Nat} (hy : fin y) : feq y (ftrunc y) = decide ((fval y).natAbs % 2 ^ unitE = 0) := by
  rw [← ftrunc_eq hy]
  have h := (ftrunc_val hy).1
  show feq y (ftrunc y) = feq (ftrunc y) y
  rw [feq_val hy h, feq_val h hy]
  exact decide_eq_decide.2 ⟨Eq.symm, Eq.symm⟩

set_option maxRecDepth 100000 in
set_option maxHeartbeats 400000 in
theorem admit_coordinate (x : Nat) (h64 : x < 2 ^ 64) (w : World) :
    Calls Tryz.prog 114 #[.float .f64 x] w fun e w' => e = .returned (.bool (coordB x)) ∧ w = w' := by
  unfold coordB
  have c1 := fin_c100
  cases h : fle (x % 2 ^ 63) 5057542381537067008
  · clear c1
    go_enter Tryz.func114, Tryz.ntmps114
    go_wp2_with (go_at_call 140; refine (abs_any _ h64 _).mono ?_; rintro e w' ⟨rfl, rfl⟩)
    go_ret
    exact ⟨rfl, rfl⟩
  · have hf := fin_of_le h64 h
    have hu := up100 h64 h
    have H : feq (fmul x 5057542381537067008) (ftrunc (fmul x 5057542381537067008)) = decide ((fval x).natAbs % 2 ^ gridE = 0) := by
      rw [feq_trunc hu.1, whole_up hu.2]
    have hu1 := hu.1
    have HH := Lib.hid H
    clear hu H
    go_enter Tryz.func114, Tryz.ntmps114
    go_wp2_with (first | (go_at_call 140; refine (abs_any _ h64 _).mono ?_; rintro e w' ⟨rfl, rfl⟩) | (go_at_call 146; refine (trunc_fin _ hu1 _).mono ?_; rintro e w' ⟨rfl, rfl⟩))
    go_ret
    exact ⟨by rw [← HH.out]; rfl, rfl⟩

set_option maxRecDepth 100000 in
set_option maxHeartbeats 400000 in
theorem circle_may (x : Nat) (h64 : x < 2 ^ 64) (w : World) :
    Calls Tryz.prog 163 #[.float .f64 x] w fun e w' => e = .returned (.bool (coordB x)) ∧ w = w' := by
  unfold coordB
  have c1 := fin_c100
  cases h : fle (x % 2 ^ 63) 5057542381537067008
  · clear c1
    go_enter Tryz.func163, Tryz.ntmps163
    go_wp2_with (go_at_call 140; refine (abs_any _ h64 _).mono ?_; rintro e w' ⟨rfl, rfl⟩)
    go_ret
    exact ⟨rfl, rfl⟩
  · have hf := fin_of_le h64 h
    have hu := up100 h64 h
    have H : feq (fmul x 5057542381537067008) (ftrunc (fmul x 5057542381537067008)) = decide ((fval x).natAbs % 2 ^ gridE = 0) := by
      rw [feq_trunc hu.1, whole_up hu.2]
    have hu1 := hu.1
    have HH := Lib.hid H
    clear hu H
    go_enter Tryz.func163, Tryz.ntmps163
    go_wp2_with (first | (go_at_call 140; refine (abs_any _ h64 _).mono ?_; rintro e w' ⟨rfl, rfl⟩) | (go_at_call 146; refine (trunc_fin _ hu1 _).mono ?_; rintro e w' ⟨rfl, rfl⟩))
    go_ret
    exact ⟨by rw [← HH.out]; rfl, rfl⟩

set_option maxRecDepth 100000 in
set_option maxHeartbeats 400000 in
theorem orient_coordinate (x : Nat) (h64 : x < 2 ^ 64) (w : World) :
    Calls Tryz.prog 142 #[.float .f64 x] w fun e w' => e = .returned (.bool (coordB x)) ∧ w = w' := by
  unfold coordB
  have c1 := fin_c100
  have ht := top_eq
  have hu := unitE_eq
  cases h : fle (x % 2 ^ 63) 5057542381537067008
  · clear c1 ht hu
    go_enter Tryz.func142, Tryz.ntmps142
    go_wp2_with (go_at_call 140; refine (abs_any _ h64 _).mono ?_; rintro e w' ⟨rfl, rfl⟩)
    go_ret
    exact ⟨rfl, rfl⟩
  · have hf := fin_of_le h64 h
    have hl := le_of_le h64 h
    obtain ⟨y, hc, hy, hv⟩ := Ldexp_exact x hf 100 (fval x * 2 ^ 100) 0 100 (by simp) (by omega) (by omega) (by omega) (by
      rw [Int.natAbs_mul, natAbs_two_pow]
      refine Nat.lt_of_le_of_lt (Nat.mul_le_mul_right _ hl) ?_
      rw [← Nat.pow_add]
      exact Nat.pow_lt_pow_right (by omega) (by omega))
    obtain ⟨z, hc2, hz, hv2⟩ := Ldexp_exact y hy (-100) (fval x) 100 0 (by rw [hv]; simp) (by omega) (by omega) (by omega) (fval_lt_top hf)
    have H1 : feq (ftrunc y) y = decide ((fval x).natAbs % 2 ^ gridE = 0) := by
      rw [← whole_up hv]; exact ftrunc_eq hy
    have H2 : feq z x = true := by rw [feq_val hz hf, hv2]; simp
    have HC := Lib.hid hc
    have HC2 := Lib.hid hc2
    clear hc hc2 ht hu hv hv2
    cases hd : decide ((fval x).natAbs % 2 ^ gridE = 0)
    all_goals
      rw [hd] at H1
      clear hd
      go_enter Tryz.func142, Tryz.ntmps142
      go_wp2_with (first | (go_at_call 140; refine (abs_any _ h64 _).mono ?_; rintro e w' ⟨rfl, rfl⟩) | (go_at_call 146; refine (trunc_fin _ hy _).mono ?_; rintro e w' ⟨rfl, rfl⟩) | (go_at_call 193; (first | (with_reducible refine (HC.out _).mono ?_) | (with_reducible refine (HC2.out _).mono ?_)); rintro e w' ⟨rfl, rfl⟩))
      go_ret
      exact ⟨rfl, rfl⟩

end Go.Proofs.YthookkmgmholcaaGreatDoor

/- expand.low, expand.within. -/
namespace Go.Proofs.YthookkmgmholcaaGreatDoor
open Go.RowKit Tvf

/-- uint64 of a whole number -/
theorem to_u64 {x M : Nat} (hx : fin x) (hv : fval x = (M : Int) * 2 ^ unitE) (hM : M < 2 ^ 63) : floatToIntVal .f64 x .u64 = some (M : Int) := by
  obtain ⟨m, k, e1, v1, hm⟩ := read_fin hx
  have hab : m * 2 ^ k = M * 2 ^ unitE := by
    have := natAbs_fval x
    rw [hv, Int.natAbs_mul, natAbs_two_pow, v1] at this
    simpa using this.symm
  have hz : M = 0 ∨ fneg x = false := by
    by_cases h0 : M = 0
    · exact Or.inl h0
    · right
      cases h : fneg x
      · rfl
      · have h1 : fval x = -(mg (x % 2 ^ 63) : Int) := by unfold fval; rw [h]; rfl
        have h2 : 0 < (M : Int) * 2 ^ unitE := Int.mul_pos (by omega) (Int.pow_pos (by omega))
        omega
  unfold floatToIntVal
  have hd : FloatKind.f64.decode x = .number (fneg x) m (-1074 + (k : Int)) := e1
  rw [hd]
  unfold Ieee.Datum.toInt Ieee.Datum.integral
  simp only [cut_zero, Nat.shiftLeft_eq]
  have hmag : m * 2 ^ (-1074 + (k : Int)).toNat / 2 ^ (-(-1074 + (k : Int))).toNat = M := by
    have hu := unitE_eq
    by_cases hk : unitE ≤ k
    · rw [show (-1074 + (k : Int)).toNat = k - unitE by omega, show (-(-1074 + (k : Int))).toNat = 0 by omega, Nat.pow_zero, Nat.div_one]
      have : m * 2 ^ (k - unitE) * 2 ^ unitE = M * 2 ^ unitE := by
        rw [Nat.mul_assoc, ← Nat.pow_add, show k - unitE + unitE = k by omega]; exact hab
      exact Nat.eq_of_mul_eq_mul_right (two_pow_pos _) this
    · rw [show (-1074 + (k : Int)).toNat = 0 by omega, show (-(-1074 + (k : Int))).toNat = unitE - k by omega, Nat.pow_zero, Nat.mul_one]
      have : m * 2 ^ k = M * 2 ^ (unitE - k) * 2 ^ k := by
        rw [Nat.mul_assoc, ← Nat.pow_add, show unitE - k + k = unitE by omega]; exact hab
      have := Nat.eq_of_mul_eq_mul_right (two_pow_pos k) this
      rw [this, Nat.mul_div_cancel _ (two_pow_pos _)]
  rw [hmag, signed_eq, Nat.pow_zero, Nat.mul_one]
  have hs : sgn (fneg x) M = (M : Int) := by
    rcases hz with h | h
    · subst h; unfold sgn; split <;> rfl
    · rw [h]; rfl
  rw [hs]
  show (if IntKind.u64.min ≤ (M : Int) ∧ (M : Int) ≤ IntKind.u64.max then some (M : Int) else none) = _
  rw [if_pos]
  show (0 : Int) ≤ (M : Int) ∧ (M : Int) ≤ 2 ^ 64 - 1
  omega

theorem and_1u (n : Nat) (h : n < 2 ^ 64) : bits .and .u64 (n : Int) 1 = ((n % 2 : Nat) : Int) := by
  rw [u64_and _ _ (by omega) (by omega) (by omega) (by omega)]
  show ((n &&& (2 ^ 1 - 1) : Nat) : Int) = _
  rw [Nat.and_two_pow_sub_one_eq_mod]

/-- the lowest digit -/
def LowOf (z r : Int) : Prop := ∃ (v : Nat) (q : Int), r = 2 ^ v ∧ z = q * 2 ^ v ∧ q % 2 = 1

set_option maxRecDepth 100000 in
set_option maxHeartbeats 1000000 in
theorem low_walk (x : Nat) (h64 : x < 2 ^ 64) (f g M t : Nat) (R : Nat → Nat)
    (hc : ∀ w, Calls Tryz.prog 197 #[.float .f64 (x % 2 ^ 63)] w fun e w' => e = .returned (.tuple #[.float .f64 f, .int .i64 ((t : Int) - 1073)]) ∧ w = w')
    (hc2 : ∀ w, Calls Tryz.prog 193 #[.float .f64 f, .int .i64 53] w fun e w' => e = .returned (.float .f64 g) ∧ w = w')
    (hg : ∀ w, (convert 23 123 (.float .f64 g)).run Tryz.prog w = .ok (.int .u64 (M : Int)) w)
    (hM0 : 0 < M) (hM1 : M < 2 ^ 53) (ht : t < 2 ^ 12)
    (hr : ∀ n c : Nat, M = n * 2 ^ c → n % 2 = 1 → ∀ w, Calls Tryz.prog 193 #[.float .f64 4607182418800017408, .int .i64 ((t : Int) - 1126 + c)] w fun e w' => e = .returned (.float .f64 (R c)) ∧ w = w') (w : World) :
    Calls Tryz.prog 203 #[.float .f64 x] w fun e w' => (∃ n c : Nat, M = n * 2 ^ c ∧ n % 2 = 1 ∧ e = .returned (.float .f64 (R c))) ∧ w = w' := by
  have HC := Lib.hid hc
  have HC2 := Lib.hid hc2
  have HR := Lib.hid hr
  clear hc hc2 hr
  go_enter Tryz.func203, Tryz.ntmps203
  go_wp2_with (first | (go_at_call 140; refine (abs_any _ h64 _).mono ?_; rintro e w' ⟨rfl, rfl⟩) | (go_at_call 197; refine (HC.out _).mono ?_; rintro e w' ⟨rfl, rfl⟩) | (go_at_call 193; refine (HC2.out _).mono ?_; rintro e w' ⟨rfl, rfl⟩))
  go_loop [4, 5] (fun e n => ∃ c k : Nat, M = k * 2 ^ c ∧ 0 < k ∧ c < 2 ^ 12 ∧ e = .int .i64 ((t : Int) - 1126 + c) ∧ n = .int .u64 (k : Int)) (fun _ n => (intOf n).toNat)
  case atStart => exact ⟨0, M, by simp, hM0, by omega, by go_num, rfl⟩
  case round =>
    obtain ⟨c, k, hk, hk0, hc12, rfl, rfl⟩ := hrel
    have hkM : k ≤ M := by rw [hk]; exact Nat.le_mul_of_pos_right _ (two_pow_pos c)
    have hcb : c ≤ 53 := by
      apply Classical.byContradiction; intro hcc
      have h1 : 2 ^ 54 ≤ 2 ^ c := Nat.pow_le_pow_right (by omega) (by omega)
      have h2 : 2 ^ c ≤ M := by rw [hk]; exact Nat.le_mul_of_pos_left _ hk0
      omega
    have hk53 : k < 2 ^ 53 := by omega
    by_cases hp : k % 2 = 0
    · have H := and_1u k (by omega)
      rw [hp] at H
      have hk2 : M = (k / 2) * 2 ^ (c + 1) := by
        rw [Nat.pow_succ, Nat.mul_comm _ 2, ← Nat.mul_assoc, show k / 2 * 2 = k by omega]; exact hk
      have hk20 : 2 ≤ k := by omega
      have HK := Lib.hid hk2
      clear hk hkM hk2 hp hM0
      go_wp2
      go_round
      case rel => exact ⟨c + 1, k / 2, HK.out, by omega, by omega, by go_num, by go_num⟩
      case measure => simp [intOf]; omega
    · have H := and_1u k (by omega)
      rw [show k % 2 = 1 by omega] at H
      have HK := Lib.hid hk
      have HP := Lib.hid (show k % 2 = 1 by omega)
      clear hk hkM hp hM0
      go_wp2_with (go_at_call 193; refine (HR.out k c HK.out HP.out _).mono ?_; rintro e w' ⟨rfl, rfl⟩)
      go_ret
      exact ⟨⟨k, c, HK.out, HP.out, rfl⟩, rfl⟩

theorem fin_one : fin 4607182418800017408 := by unfold fin; omega

/-- expand.low of a number that is not nought -/
theorem low_exact (x : Nat) (hx : fin x) (h0 : fval x ≠ 0) :
    ∃ r, (∀ w, Calls Tryz.prog 203 #[.float .f64 x] w fun e w' => e = .returned (.float .f64 r) ∧ w = w') ∧ fin r ∧ LowOf (fval x) (fval r) := by
  have hx1 := hx.1
  have hu := unitE_eq
  have ht0 := top_eq
  have hpos : 0 < fval (x % 2 ^ 63) := by rw [fval_abs]; omega
  obtain ⟨f, M, t, hc, hf, hfv, hM1, hM2, hval, ht⟩ := Frexp_exact (x % 2 ^ 63) (fin_abs hx) hpos
  obtain ⟨g, hc2, hg, hgv⟩ := Ldexp_exact f hf 53 ((M : Int) * 2 ^ unitE) 0 53 (by
    rw [hfv, Int.mul_assoc, ← Int.pow_add, show e1021 + 53 = unitE from rfl, Int.pow_zero, Int.mul_one]) (by omega) (by omega) (by omega) (by
    rw [Int.natAbs_mul, natAbs_two_pow, Int.natAbs_natCast]
    refine Nat.lt_of_lt_of_le (Nat.mul_lt_mul_of_pos_right hM2 (two_pow_pos _)) ?_
    rw [← Nat.pow_add]
    exact Nat.pow_le_pow_right (by omega) (by omega))
  have hconv : ∀ w, (convert 23 123 (.float .f64 g)).run Tryz.prog w = .ok (.int .u64 (M : Int)) w := fun w =>
    run_convert_float_int w 23 123 .f64 .u64 g M (by rw [Tryz.underlying23]; rfl) Tryz.underlying123 (to_u64 hg hgv (by omega))
  rw [fval_abs] at hval
  have cast : ∀ (a b : Nat), ((a * 2 ^ b : Nat) : Int) = (a : Int) * 2 ^ b := fun a b => by simp
  have hval' : (fval x).natAbs * 2 ^ 52 = M * 2 ^ t := by
    have := hval; rw [← cast, ← cast] at this; exact Int.ofNat.inj this
  -- the number of the lowest digit does not hang on how it was found
  have key : ∀ n c : Nat, M = n * 2 ^ c → n % 2 = 1 → 52 ≤ c + t ∧ (fval x).natAbs = n * 2 ^ (c + t - 52) := by
    intro n c h1 h2
    rw [h1, Nat.mul_assoc, ← Nat.pow_add] at hval'
    by_cases h52 : 52 ≤ c + t
    · refine ⟨h52, ?_⟩
      apply Nat.eq_of_mul_eq_mul_right (two_pow_pos 52)
      rw [hval', Nat.mul_assoc, ← Nat.pow_add, show c + t - 52 + 52 = c + t by omega]
    · exfalso
      have e1 : (fval x).natAbs * 2 ^ (52 - (c + t)) = n := by
        apply Nat.eq_of_mul_eq_mul_right (two_pow_pos (c + t))
        rw [Nat.mul_assoc, ← Nat.pow_add, show 52 - (c + t) + (c + t) = 52 by omega]; exact hval'
      rw [show 52 - (c + t) = (52 - (c + t) - 1) + 1 by omega, Nat.pow_succ, ← Nat.mul_assoc] at e1
      omega
  have uniq : ∀ n c n' c' : Nat, M = n * 2 ^ c → n % 2 = 1 → M = n' * 2 ^ c' → n' % 2 = 1 → c = c' := by
    intro n c n' c' h1 h2 h3 h4
    have gen : ∀ a b p q : Nat, p * 2 ^ a = q * 2 ^ b → p % 2 = 1 → b ≤ a := by
      intro a b p q h hp
      apply Classical.byContradiction
      intro hab
      have : p = q * 2 ^ (b - a) := by
        apply Nat.eq_of_mul_eq_mul_right (two_pow_pos a)
        rw [h, Nat.mul_assoc, ← Nat.pow_add, show b - a + a = b by omega]
      rw [show b - a = (b - a - 1) + 1 by omega, Nat.pow_succ, ← Nat.mul_assoc] at this
      omega
    have a1 := gen c c' n n' (by rw [← h1, ← h3]) h2
    have a2 := gen c' c n' n (by rw [← h1, ← h3]) h4
    omega
  have hr : ∀ c : Nat, ∃ r, (∀ n, M = n * 2 ^ c → n % 2 = 1 → (∀ w, Calls Tryz.prog 193 #[.float .f64 4607182418800017408, .int .i64 ((t : Int) - 1126 + c)] w fun e w' => e = .returned (.float .f64 r) ∧ w = w') ∧ fin r ∧ fval r = 2 ^ (c + t - 52)) := by
    intro c
    by_cases h : ∃ n, M = n * 2 ^ c ∧ n % 2 = 1
    · obtain ⟨n, h1, h2⟩ := h
      obtain ⟨k1, k2⟩ := key n c h1 h2
      have hc53 : c ≤ 53 := by
        apply Classical.byContradiction; intro hcc
        have h3 : 2 ^ 54 ≤ 2 ^ c := Nat.pow_le_pow_right (by omega) (by omega)
        have h4 : 2 ^ c ≤ M := by rw [h1]; exact Nat.le_mul_of_pos_left _ (by omega)
        omega
      obtain ⟨r, r1, r2, r3⟩ := Ldexp_exact 4607182418800017408 fin_one ((t : Int) - 1126 + c) (2 ^ (c + t - 52)) unitE (c + t - 52) (by rw [fval_one, Int.mul_comm]) (by omega) (by omega) (by omega) (by
        rw [natAbs_two_pow]
        refine Nat.lt_of_le_of_lt ?_ (fval_lt_top hx)
        rw [k2]; exact Nat.le_mul_of_pos_left _ (by omega))
      exact ⟨r, fun _ _ _ => ⟨r1, r2, r3⟩⟩
    · exact ⟨0, fun n h1 h2 => absurd ⟨n, h1, h2⟩ h⟩
  obtain ⟨R, hR⟩ := Classical.axiomOfChoice hr
  have hw := low_walk x hx.1 f g M t R hc hc2 hconv (by omega) hM2 ht (fun n c h1 h2 => (hR c n h1 h2).1)
  -- the one that is found
  have hex : ∃ n c : Nat, M = n * 2 ^ c ∧ n % 2 = 1 := by
    have gen : ∀ k m : Nat, 0 < m → m < 2 ^ k → ∃ n c : Nat, m = n * 2 ^ c ∧ n % 2 = 1 := by
      intro k
      induction k with
      | zero => intro m h1 h2; omega
      | succ k ih =>
        intro m h1 h2
        by_cases hm : m % 2 = 1
        · exact ⟨m, 0, by simp, hm⟩
        · rw [Nat.pow_succ] at h2
          obtain ⟨n, c, h3, h4⟩ := ih (m / 2) (by omega) (by omega)
          refine ⟨n, c + 1, ?_, h4⟩
          rw [Nat.pow_succ, ← Nat.mul_assoc, ← h3]; omega
    exact gen 53 M (by omega) hM2
  obtain ⟨n, c, h1, h2⟩ := hex
  refine ⟨R c, fun w => (hw w).mono ?_, (hR c n h1 h2).2.1, ?_⟩
  · rintro e w' ⟨⟨n', c', h3, h4, he⟩, hww⟩
    rw [uniq n c n' c' h1 h2 h3 h4]
    exact ⟨he, hww⟩
  · obtain ⟨k1, k2⟩ := key n c h1 h2
    rw [(hR c n h1 h2).2.2]
    by_cases hs : 0 ≤ fval x
    · exact ⟨_, n, rfl, by rw [← cast, ← k2]; omega, by omega⟩
    · exact ⟨_, -(n : Int), rfl, by rw [Int.neg_mul, ← cast, ← k2]; omega, by omega⟩

end Go.Proofs.YthookkmgmholcaaGreatDoor

/- expand.within, expand.all: which expansions may be. -/
namespace Go.Proofs.YthookkmgmholcaaGreatDoor
open Go.RowKit Tvf

/-- a slice of floats that reads as a list of words -/
def FSl (w : World) (v : Value) (l : List Nat) : Prop :=
  l.length ≤ 4294967296 ∧ (∀ x, x ∈ l → x < 2 ^ 64) ∧
  ((v = .slice none 0 0 ∧ l = []) ∨
    ∃ b off cap : Nat, v = .slice (some ⟨b, off, none⟩) l.length cap ∧ b < w.heap.size ∧ ∀ i, i < l.length → w.cell? ⟨b, off + i, none⟩ = some (.float .f64 (l.getD i 0)))

theorem FSl.below {w w' : World} {v : Value} {l : List Nat} (h : FSl w v l) (hb : Below w.heap.size w w') : FSl w' v l := by
  obtain ⟨h1, h2, h3⟩ := h
  refine ⟨h1, h2, ?_⟩
  rcases h3 with h3 | ⟨b, off, cap, e, hlt, hc⟩
  · exact Or.inl h3
  · exact Or.inr ⟨b, off, cap, e, Nat.lt_of_lt_of_le hlt hb.size, fun i hi => by rw [hb.cell (p := ⟨b, off + i, none⟩) hlt]; exact hc i hi⟩

theorem getD_mem {l : List Nat} {k : Nat} (h : k < l.length) : l.getD k 0 ∈ l := by
  rw [List.getD_eq_getElem?_getD, List.getElem?_eq_getElem h]; exact List.getElem_mem h

def withinB (x a b : Nat) : Bool := fge (x % 2 ^ 63) a && fle (x % 2 ^ 63) b

set_option maxRecDepth 100000 in
set_option maxHeartbeats 400000 in
theorem within_any (x a b : Nat) (h64 : x < 2 ^ 64) (w : World) :
    Calls Tryz.prog 164 #[.float .f64 x, .float .f64 a, .float .f64 b] w fun e w' => e = .returned (.bool (withinB x a b)) ∧ w = w' := by
  unfold withinB
  cases h1 : fge (x % 2 ^ 63) a
  all_goals
    go_enter Tryz.func164, Tryz.ntmps164
    go_wp2_with (go_at_call 140; refine (abs_any _ h64 _).mono ?_; rintro e w' ⟨rfl, rfl⟩)
    go_ret
    exact ⟨rfl, rfl⟩

theorem FSl.form {w : World} {v : Value} {l : List Nat} (h : FSl w v l) : ∃ ad cap, v = .slice ad l.length cap ∧
    (0 < l.length → ∃ b off : Nat, ad = some ⟨b, off, none⟩ ∧ b < w.heap.size ∧ ∀ i, i < l.length → w.cell? ⟨b, off + i, none⟩ = some (.float .f64 (l.getD i 0))) := by
  obtain ⟨_, _, ⟨h1, h2⟩ | ⟨b, off, cap, e, hb, hc⟩⟩ := h
  · subst h2; exact ⟨none, 0, h1, fun h => by simp at h⟩
  · exact ⟨_, cap, e, fun _ => ⟨b, off, rfl, hb, hc⟩⟩

open Classical in
/-- the word of a number's lowest digit -/
noncomputable def lowF (x : Nat) : Nat := if h : fin x ∧ fval x ≠ 0 then Classical.choose (low_exact x h.1 h.2) else 0

theorem lowF_spec {x : Nat} (hx : fin x) (h0 : fval x ≠ 0) : (∀ w, Calls Tryz.prog 203 #[.float .f64 x] w fun e w' => e = .returned (.float .f64 (lowF x)) ∧ w = w') ∧ fin (lowF x) ∧ LowOf (fval x) (fval (lowF x)) := by
  unfold lowF
  rw [dif_pos ⟨hx, h0⟩]
  exact Classical.choose_spec (low_exact x hx h0)

noncomputable def goodAt (l : List Nat) (a b j : Nat) : Bool := withinB (l.getD j 0) a b && (decide (j = 0) || !fge (l.getD (j - 1) 0 % 2 ^ 63) (lowF (l.getD j 0)))
noncomputable def allB (l : List Nat) (a b : Nat) : Bool := decide (l.length ≤ 64) && (List.range l.length).all (goodAt l a b)

theorem all_false {l : List Nat} {a b j : Nat} (hj : j < l.length) (h : goodAt l a b j = false) : allB l a b = false := by
  unfold allB
  rw [Bool.and_eq_false_iff]
  right
  rw [List.all_eq_false]
  exact ⟨j, by simpa using hj, by simp [h]⟩

theorem all_true {l : List Nat} {a b : Nat} (hl : l.length ≤ 64) (h : ∀ j, j < l.length → goodAt l a b j = true) : allB l a b = true := by
  unfold allB
  rw [Bool.and_eq_true]
  refine ⟨by simpa using hl, ?_⟩
  rw [List.all_eq_true]
  intro j hj
  exact h j (by simpa using hj)

theorem nz_of_within {x a b : Nat} (hx : fin x) (ha : fin a) (ha0 : 0 < fval a) (h : withinB x a b = true) : fval x ≠ 0 := by
  unfold withinB at h
  rw [Bool.and_eq_true] at h
  have h1 := h.1
  rw [fge_val (fin_abs hx) ha, fval_abs] at h1
  have := of_decide_eq_true h1
  omega

set_option maxRecDepth 100000 in
set_option maxHeartbeats 1000000 in
theorem all_walk (l : List Nat) (v : Value) (a b : Nat) (ha : fin a) (ha0 : 0 < fval a) (hl : ∀ x, x ∈ l → fin x) (w : World) (hv : FSl w v l) :
    Calls Tryz.prog 165 #[v, .float .f64 a, .float .f64 b] w fun e w' => e = .returned (.bool (allB l a b)) ∧ w = w' := by
  have hv1 := hv.1
  obtain ⟨ad, cap, rfl, hcell⟩ := hv.form
  clear hv
  by_cases h64 : l.length ≤ 64
  · have HG : Hid (∀ j, j < l.length → goodAt l a b j = false → allB l a b = false) := fun j h1 h2 => all_false h1 h2
    have HT : Hid ((∀ j, j < l.length → goodAt l a b j = true) → allB l a b = true) := fun h => all_true h64 h
    have HC := Lib.hid hcell
    have HL := Lib.hid hl
    have HA := Lib.hid ha
    have HA0 := Lib.hid ha0
    clear hcell hl ha ha0
    go_enter Tryz.func165, Tryz.ntmps165
    go_wp2
    go_loop [14] (fun i => ∃ k : Nat, k ≤ l.length ∧ i = .int .i64 k ∧ Hid (∀ j, j < k → goodAt l a b j = true)) (fun i => l.length - (intOf i).toNat)
    case atStart => exact ⟨0, by omega, rfl, fun j hj => by omega⟩
    case round =>
      obtain ⟨k, hk, rfl, HK⟩ := hrel
      by_cases hlt : k < l.length
      · obtain ⟨bb, off, rfl, hbb, hc⟩ := HC.out (by omega)
        have hck := hc k hlt
        have hx := HL.out (l.getD k 0) (getD_mem hlt)
        have hckp : 0 < k → w.cell? ⟨bb, off + (k - 1), none⟩ = some (.float .f64 (l.getD (k - 1) 0)) := fun _ => hc (k - 1) (by omega)
        have hxp : 0 < k → fin (l.getD (k - 1) 0) := fun _ => HL.out _ (getD_mem (by omega))
        clear hc
        have hx1 := Lib.hid hx.1
        have hgd : goodAt l a b k = (withinB (l.getD k 0) a b && (decide (k = 0) || !fge (l.getD (k - 1) 0 % 2 ^ 63) (lowF (l.getD k 0)))) := rfl
        have HX := Lib.hid hx
        clear hx
        generalize l.getD k 0 = x at *
        cases hw1 : withinB x a b
        · -- it is not of the magnitude
          have HF := Lib.hid (HG.out k hlt (by rw [hgd, hw1]; rfl))
          clear hgd hckp hxp
          go_wp2_with (go_at_call 164; refine (within_any _ _ _ hx1.out _).mono ?_; rintro e w' ⟨rfl, rfl⟩)
          go_ret
          exact ⟨by rw [HF.out]; rfl, rfl⟩
        · by_cases hk0 : k = 0
          · subst hk0
            rw [Nat.add_zero] at hck
            have HF := Lib.hid (show ∀ j, j < 0 + 1 → goodAt l a b j = true from fun j hj => by
              have : j = 0 := by omega
              subst this; rw [hgd, hw1]; rfl)
            clear hgd hckp hxp
            go_wp2_with (go_at_call 164; refine (within_any _ _ _ hx1.out _).mono ?_; rintro e w' ⟨rfl, rfl⟩)
            go_round
            case rel => exact ⟨0 + 1, by omega, by go_num, HF⟩
            case measure => simp [intOf]; omega
          · have hcp := hckp (by omega)
            have hxp := hxp (by omega)
            have hxp1 := Lib.hid hxp.1
            have hlow := (lowF_spec HX.out (nz_of_within HX.out HA.out HA0.out hw1)).1
            have HLO := Lib.hid hlow
            clear hckp hlow hxp
            generalize l.getD (k - 1) 0 = y at *
            have hkd : decide (k = 0) = false := by simpa using hk0
            rw [hw1, hkd] at hgd
            have hi1 : ((k : Int) - 1).toNat = k - 1 := by omega
            cases hw2 : fge (y % 2 ^ 63) (lowF x)
            · have HF := Lib.hid (show ∀ j, j < k + 1 → goodAt l a b j = true from fun j hj => by
                by_cases hjk : j = k
                · subst hjk; rw [hgd, hw2]; rfl
                · exact HK.out j (by omega))
              clear hgd hkd
              go_wp2_with (first | (go_at_call 164; refine (within_any _ _ _ hx1.out _).mono ?_; rintro e w' ⟨rfl, rfl⟩) | (go_at_call 140; refine (abs_any _ hxp1.out _).mono ?_; rintro e w' ⟨rfl, rfl⟩) | (go_at_call 203; refine (HLO.out _).mono ?_; rintro e w' ⟨rfl, rfl⟩))
              go_round
              case rel => exact ⟨k + 1, by omega, by go_num, HF⟩
              case measure => simp [intOf]; omega
            · have HF := Lib.hid (HG.out k hlt (by rw [hgd, hw2]; rfl))
              clear hgd hkd
              go_wp2_with (first | (go_at_call 164; refine (within_any _ _ _ hx1.out _).mono ?_; rintro e w' ⟨rfl, rfl⟩) | (go_at_call 140; refine (abs_any _ hxp1.out _).mono ?_; rintro e w' ⟨rfl, rfl⟩) | (go_at_call 203; refine (HLO.out _).mono ?_; rintro e w' ⟨rfl, rfl⟩))
              go_ret
              exact ⟨by rw [HF.out]; rfl, rfl⟩
      · have HF := Lib.hid (HT.out (fun j hj => HK.out j (by omega)))
        go_wp2
        go_ret
        exact ⟨by rw [HF.out]; rfl, rfl⟩
  · have HF : Hid (allB l a b = false) := by unfold Hid allB; rw [show decide (l.length ≤ 64) = false by simpa using h64]; rfl
    have h65 : 64 < l.length := by omega
    clear hcell hl ha ha0 h64
    go_enter Tryz.func165, Tryz.ntmps165
    go_wp2
    go_ret
    exact ⟨by rw [HF.out]; rfl, rfl⟩

end Go.Proofs.YthookkmgmholcaaGreatDoor

/- eft.Sum, eft.Diff. -/
namespace Go.Proofs.YthookkmgmholcaaGreatDoor
open Go.RowKit Tvf

theorem rn_le_pow {z : Int} {k : Nat} (h : z.natAbs ≤ 2 ^ k) : (rn z).natAbs ≤ 2 ^ k := by
  have hr : rep ((2 : Int) ^ k) := by
    have := rep_of (m := 1) k (by decide); rw [Int.one_mul] at this; exact this
  have cast : ((2 ^ k : Nat) : Int) = (2 : Int) ^ k := by simp
  have m1 := rn_mono (a := z) (b := 2 ^ k) (by rw [← cast]; omega)
  have m2 := rn_mono (a := -(2 ^ k)) (b := z) (by rw [← cast]; omega)
  rw [rn_rep (rep_neg hr)] at m2
  rw [rn_rep hr] at m1
  rw [← cast] at m1 m2
  omega

def sumHi (a b : Nat) : Nat := fadd a b
def sumLo (a b : Nat) : Nat := fadd (fsub a (fsub (fadd a b) (fsub (fadd a b) a))) (fsub b (fsub (fadd a b) a))
/-- neither infinite nor very great -/
def tame (x : Nat) : Prop := fin x ∧ (fval x).natAbs ≤ 2 ^ (unitE + 1000)

theorem nsub_pow {x y : Int} {i j k : Nat} (hx : x.natAbs ≤ 2 ^ i) (hy : y.natAbs ≤ 2 ^ j) (hi : i < k) (hj : j < k) : (x - y).natAbs ≤ 2 ^ k := by
  have e : 2 ^ k = 2 * 2 ^ (k - 1) := by rw [show k = k - 1 + 1 by omega, Nat.pow_succ]; simp; omega
  have h1 : 2 ^ i ≤ 2 ^ (k - 1) := Nat.pow_le_pow_right (by omega) (by omega)
  have h2 : 2 ^ j ≤ 2 ^ (k - 1) := Nat.pow_le_pow_right (by omega) (by omega)
  omega
theorem nadd_pow {x y : Int} {i j k : Nat} (hx : x.natAbs ≤ 2 ^ i) (hy : y.natAbs ≤ 2 ^ j) (hi : i < k) (hj : j < k) : (x + y).natAbs ≤ 2 ^ k := by
  have := nsub_pow (y := -y) hx (by rw [Int.natAbs_neg]; exact hy) hi hj
  rwa [show x - -y = x + y by omega] at this

theorem sub_step {x y i j k : Nat} (hx : fin x) (hy : fin y) (bx : (fval x).natAbs ≤ 2 ^ i) (bY : (fval y).natAbs ≤ 2 ^ j) (hi : i < k) (hj : j < k) (hk : k < top) :
    fin (fsub x y) ∧ fval (fsub x y) = rn (fval x - fval y) ∧ (fval (fsub x y)).natAbs ≤ 2 ^ k := by
  have b := nsub_pow bx bY hi hj
  obtain ⟨c1, c2⟩ := fsub_val hx hy (inReach_le b hk)
  exact ⟨c1, c2, by rw [c2]; exact rn_le_pow b⟩
theorem add_step {x y i j k : Nat} (hx : fin x) (hy : fin y) (bx : (fval x).natAbs ≤ 2 ^ i) (bY : (fval y).natAbs ≤ 2 ^ j) (hi : i < k) (hj : j < k) (hk : k < top) :
    fin (fadd x y) ∧ fval (fadd x y) = rn (fval x + fval y) ∧ (fval (fadd x y)).natAbs ≤ 2 ^ k := by
  have b := nadd_pow bx bY hi hj
  obtain ⟨c1, c2⟩ := fadd_val hx hy (inReach_le b hk)
  exact ⟨c1, c2, by rw [c2]; exact rn_le_pow b⟩

theorem sum_fin {a b : Nat} (ha : tame a) (hb : tame b) :
    fin (fadd a b) ∧ fin (fsub (fadd a b) a) ∧ fin (fsub (fadd a b) (fsub (fadd a b) a)) ∧ fin (fsub a (fsub (fadd a b) (fsub (fadd a b) a))) ∧ fin (fsub b (fsub (fadd a b) a)) ∧ fin (sumLo a b) ∧
      fval (sumHi a b) = rn (fval a + fval b) ∧ fval (sumLo a b) = fval a + fval b - rn (fval a + fval b) := by
  obtain ⟨ha, ha1⟩ := ha
  obtain ⟨hb, hb1⟩ := hb
  have two := two_sum (rep_fval a) (rep_fval b)
  have hK5 : unitE + 1000 + 5 < top := by decide
  unfold sumHi sumLo
  generalize unitE + 1000 = K at *
  obtain ⟨s1, s2, s3⟩ := add_step (k := K + 1) ha hb ha1 hb1 (by simp) (by simp) (Nat.lt_trans (by simp) hK5)
  obtain ⟨c1, c2, c3⟩ := sub_step (k := K + 2) s1 ha s3 ha1 (by simp) (by simp) (Nat.lt_trans (by simp) hK5)
  obtain ⟨d1, d2, d3⟩ := sub_step (k := K + 3) s1 c1 s3 c3 (by simp) (by simp) (Nat.lt_trans (by simp) hK5)
  obtain ⟨e1, e2, e3⟩ := sub_step (k := K + 4) ha d1 ha1 d3 (by simp) (by simp) (Nat.lt_trans (by simp) hK5)
  obtain ⟨f1, f2, f3⟩ := sub_step (k := K + 4) hb c1 hb1 c3 (by simp) (by simp) (Nat.lt_trans (by simp) hK5)
  obtain ⟨g1, g2, g3⟩ := add_step (k := K + 5) e1 f1 e3 f3 (by simp) (by simp) hK5
  refine ⟨s1, c1, d1, e1, f1, g1, s2, ?_⟩
  rw [g2, e2, f2, d2, c2, s2]
  exact two

theorem fin_c1000 : fin 9110782046170513408 := by unfold fin; omega
theorem fval_c1000 : fval 9110782046170513408 = 2 ^ (unitE + 1000) :=
  fval_pow (F := 2023) (by unfold fin; omega) (by omega) (by omega) (by omega) (by omega) rfl

theorem tame_le {x : Nat} (h : tame x) : fle (x % 2 ^ 63) 9110782046170513408 = true := by
  rw [fle_val (fin_abs h.1) fin_c1000, fval_abs, fval_c1000]
  have := h.2
  have cast : ((2 ^ (unitE + 1000) : Nat) : Int) = (2 : Int) ^ (unitE + 1000) := by simp
  rw [← cast]
  simp; omega

set_option maxRecDepth 100000 in
set_option maxHeartbeats 400000 in
theorem tame_walk (x : Nat) (h64 : x < 2 ^ 64) (w : World) :
    Calls Tryz.prog 228 #[.float .f64 x] w fun e w' => e = .returned (.bool (fle (x % 2 ^ 63) 9110782046170513408)) ∧ w = w' := by
  go_enter Tryz.func228, Tryz.ntmps228
  go_wp2_with (go_at_call 140; refine (abs_any _ h64 _).mono ?_; rintro e w' ⟨rfl, rfl⟩)
  go_ret
  exact ⟨rfl, rfl⟩

set_option maxRecDepth 100000 in
set_option maxHeartbeats 1000000 in
theorem sum_walk (a b : Nat) (ha : tame a) (hb : tame b) (w : World) :
    Calls Tryz.prog 194 #[.float .f64 a, .float .f64 b] w fun e w' => e = .returned (.tuple #[.float .f64 (sumHi a b), .float .f64 (sumLo a b)]) ∧ Below w.heap.size w w' := by
  obtain ⟨s1, s2, s3, s4, s5, s6, _, _⟩ := sum_fin ha hb
  have ta := tame_le ha
  have tb := tame_le hb
  have ha1 := ha.1
  have hb1 := hb.1
  have ha2 := Lib.hid ha1.1
  have hb2 := Lib.hid hb1.1
  clear ha hb
  go_enter Tryz.func194, Tryz.ntmps194
  go_wp2_with (first | (go_at_call 228; (first | (with_reducible refine (tame_walk a ha2.out _).mono ?_) | (with_reducible refine (tame_walk b hb2.out _).mono ?_)); rintro e w' ⟨rfl, rfl⟩) | go_in)
  go_ret2
  exact ⟨rfl, (Below.refl _ _).alloc (Nat.le_refl _) _⟩

end Go.Proofs.YthookkmgmholcaaGreatDoor

/- eft.Diff, eft.Safe, eft.Split, eft.Prod. -/
namespace Go.Proofs.YthookkmgmholcaaGreatDoor
open Go.RowKit Tvf

theorem tame_opp {x : Nat} (h : tame x) : tame (fopp x) := ⟨fopp_fin h.1, by rw [fopp_val h.1.1, Int.natAbs_neg]; exact h.2⟩

set_option maxRecDepth 100000 in
set_option maxHeartbeats 400000 in
theorem diff_walk (a b : Nat) (ha : tame a) (hb : tame b) (w : World) :
    Calls Tryz.prog 144 #[.float .f64 a, .float .f64 b] w fun e w' => e = .returned (.tuple #[.float .f64 (sumHi a (fopp b)), .float .f64 (sumLo a (fopp b))]) ∧ Below w.heap.size w w' := by
  have HS := Lib.hid (sum_walk a (fopp b) ha (tame_opp hb))
  clear ha hb
  go_enter Tryz.func144, Tryz.ntmps144
  go_wp2_with (go_at_call 194; refine (HS.out _).mono ?_; rintro e w' ⟨rfl, hb⟩)
  go_ret2
  exact ⟨rfl, hb⟩

/-- what a difference comes to -/
theorem diff_val {a b : Nat} (ha : tame a) (hb : tame b) : fin (sumHi a (fopp b)) ∧ fin (sumLo a (fopp b)) ∧ fval (sumHi a (fopp b)) = rn (fval a - fval b) ∧ fval (sumLo a (fopp b)) = fval a - fval b - rn (fval a - fval b) := by
  obtain ⟨s1, _, _, _, _, s6, s7, s8⟩ := sum_fin ha (tame_opp hb)
  rw [fopp_val hb.1.1] at s7 s8
  exact ⟨s1, s6, by rw [s7]; rfl, by rw [s8]; rfl⟩

def safeB (x : Nat) : Bool := feq (x % 2 ^ 63) 0 || (fge (x % 2 ^ 63) 2580562586483294208 && fle (x % 2 ^ 63) 6633802251116740608)

set_option maxRecDepth 100000 in
set_option maxHeartbeats 400000 in
theorem safe_walk (x : Nat) (h64 : x < 2 ^ 64) (w : World) :
    Calls Tryz.prog 239 #[.float .f64 x] w fun e w' => e = .returned (.bool (safeB x)) ∧ w = w' := by
  unfold safeB
  cases h1 : feq (x % 2 ^ 63) 0 <;> cases h2 : fge (x % 2 ^ 63) 2580562586483294208
  all_goals
    go_enter Tryz.func239, Tryz.ntmps239
    go_wp2_with (go_at_call 140; refine (abs_any _ h64 _).mono ?_; rintro e w' ⟨rfl, rfl⟩)
    go_ret
    exact ⟨rfl, rfl⟩

/-- neither very great nor very small -/
def safe (x : Nat) : Prop := fin x ∧ 2 ^ (unitE - 450) ≤ (fval x).natAbs ∧ (fval x).natAbs ≤ 2 ^ (unitE + 450)

theorem fval_m450 : fval 2580562586483294208 = 2 ^ (unitE - 450) :=
  fval_pow (F := 573) (by unfold fin; omega) (by omega) (by omega) (by omega) (by omega) rfl
theorem fval_p450 : fval 6633802251116740608 = 2 ^ (unitE + 450) :=
  fval_pow (F := 1473) (by unfold fin; omega) (by omega) (by omega) (by omega) (by omega) rfl

theorem safe_true {x : Nat} (h : safe x) : safeB x = true := by
  unfold safeB
  rw [fge_val (fin_abs h.1) (by unfold fin; omega), fle_val (fin_abs h.1) (by unfold fin; omega), fval_abs, fval_m450, fval_p450]
  have h1 := h.2.1
  have h2 := h.2.2
  obtain ⟨p, hp⟩ : ∃ p : Nat, p = 2 ^ (unitE - 450) := ⟨_, rfl⟩
  obtain ⟨q, hq⟩ : ∃ q : Nat, q = 2 ^ (unitE + 450) := ⟨_, rfl⟩
  have c1 : (p : Int) = (2 : Int) ^ (unitE - 450) := by rw [hp]; simp
  have c2 : (q : Int) = (2 : Int) ^ (unitE + 450) := by rw [hq]; simp
  rw [← c1, ← c2]
  rw [← hp] at h1
  rw [← hq] at h2
  have d1 : decide ((p : Int) ≤ ((fval x).natAbs : Int)) = true := by simp; omega
  have d2 : decide (((fval x).natAbs : Int) ≤ (q : Int)) = true := by simp; omega
  rw [d1, d2]; simp

def splitC (a : Nat) : Nat := fmul 4728779608772575232 a
def splitHi (a : Nat) : Nat := fsub (splitC a) (fsub (splitC a) a)
def splitLo (a : Nat) : Nat := fsub a (splitHi a)

set_option maxRecDepth 100000 in
set_option maxHeartbeats 400000 in
theorem split_walk (a : Nat) (h64 : a < 2 ^ 64) (hs : safeB a = true) (h0 : fin 4728779608772575232) (h1 : fin a) (h2 : fin (fmul 4728779608772575232 a)) (h3 : fin (fsub (fmul 4728779608772575232 a) a)) (h4 : fin (fsub (fmul 4728779608772575232 a) (fsub (fmul 4728779608772575232 a) a))) (w : World) :
    Calls Tryz.prog 240 #[.float .f64 a] w fun e w' => e = .returned (.tuple #[.float .f64 (splitHi a), .float .f64 (splitLo a)]) ∧ w = w' := by
  go_enter Tryz.func240, Tryz.ntmps240
  go_wp2_with (go_at_call 239; refine (safe_walk _ h64 _).mono ?_; rw [hs]; rintro e w' ⟨rfl, rfl⟩)
  go_ret2
  exact ⟨rfl, rfl⟩

/-- a product over units -/
theorem mul_unit {x y : Nat} (hx : fin x) (hy : fin y) {P Q : Int} {i j u n : Nat} (ex : fval x = P * 2 ^ i) (ey : fval y = Q * 2 ^ j) (hij : i + j = unitE + u) (hb : (P * Q).natAbs ≤ 2 ^ n) (hn : n + u < top) :
    fin (fmul x y) ∧ fval (fmul x y) = rn (P * Q) * 2 ^ u := by
  have hz : fval x * fval y = (P * Q * 2 ^ u) * 2 ^ unitE := by
    rw [ex, ey, Int.mul_assoc (P * Q), ← Int.pow_add, Nat.add_comm u, ← hij, Int.pow_add]; grind
  have hr : inReach (P * Q * 2 ^ u) := by
    refine inReach_le (k := n + u) ?_ hn
    rw [Int.natAbs_mul, natAbs_two_pow, Nat.pow_add]
    exact Nat.mul_le_mul_right _ hb
  have := fmul_val hx hy hz hr
  rw [rn_scale] at this
  exact this

theorem sub_unit {x y : Nat} (hx : fin x) (hy : fin y) {P Q : Int} {u n : Nat} (ex : fval x = P * 2 ^ u) (ey : fval y = Q * 2 ^ u) (hb : (P - Q).natAbs ≤ 2 ^ n) (hn : n + u < top) :
    fin (fsub x y) ∧ fval (fsub x y) = rn (P - Q) * 2 ^ u := by
  have hz : fval x - fval y = (P - Q) * 2 ^ u := by rw [ex, ey, Int.sub_mul]
  have hr : inReach (fval x - fval y) := by
    rw [hz]
    refine inReach_le (k := n + u) ?_ hn
    rw [Int.natAbs_mul, natAbs_two_pow, Nat.pow_add]
    exact Nat.mul_le_mul_right _ hb
  have := fsub_val hx hy hr
  rw [hz, rn_scale] at this
  exact this

theorem fin_half : fin 4728779608772575232 := by unfold fin; omega
theorem fval_half : fval 4728779608772575232 = 134217729 * 2 ^ unitE := by
  have hf := fin_half
  have h := fval_norm hf (by omega)
  have e1 : (4728779608772575232 : Nat) / 2 ^ 52 % 2048 = 1050 := by omega
  have e2 : (4728779608772575232 : Nat) % 2 ^ 52 = 2 ^ 25 := by omega
  have e3 : fneg 4728779608772575232 = false := by decide
  rw [e1, e2, e3] at h
  obtain ⟨k, hk⟩ : ∃ k : Nat, k = 1050 - 1 := ⟨_, rfl⟩
  rw [← hk] at h
  rw [h, show (2 ^ 52 + 2 ^ 25 : Nat) = 134217729 * 2 ^ 25 by decide, Nat.mul_assoc, ← Nat.pow_add, show 25 + k = unitE by have := unitE_eq; omega]
  show ((134217729 * 2 ^ unitE : Nat) : Int) = _
  simp

theorem rn_abs_le {z : Int} {n : Nat} (h : z.natAbs ≤ 2 ^ n) : (rn z).natAbs ≤ 2 ^ n := rn_le_pow h

/-- the halves of a number -/
theorem split_val {a : Nat} (ha : fin a) {A : Int} {i : Nat} (ea : fval a = A * 2 ^ i) (h1 : 2 ^ 52 ≤ A.natAbs) (h2 : A.natAbs < 2 ^ 53) (hi : i + 90 < top) :
    fin (splitC a) ∧ fin (fsub (splitC a) a) ∧ fin (splitHi a) ∧ fin (splitLo a) ∧ fval (splitHi a) = hiOf A * 2 ^ i ∧ fval (splitLo a) = (A - hiOf A) * 2 ^ i := by
  have hu := unitE_eq
  obtain ⟨H, hH, bH, bL⟩ := split_norm h1 h2
  obtain ⟨c1, c2⟩ := mul_unit fin_half ha (n := 81) fval_half ea rfl (by omega) (by omega)
  have bc : (rn (134217729 * A)).natAbs ≤ 2 ^ 81 := rn_le_pow (by omega)
  obtain ⟨d1, d2⟩ := sub_unit c1 ha (n := 82) c2 ea (by clear hH bH bL; omega) (by omega)
  have bd : (rn (rn (134217729 * A) - A)).natAbs ≤ 2 ^ 82 := rn_le_pow (by clear hH bH bL; omega)
  obtain ⟨e1, e2⟩ := sub_unit c1 d1 (n := 83) c2 d2 (by clear hH bH bL; omega) (by omega)
  have e2' : fval (splitHi a) = hiOf A * 2 ^ i := e2
  obtain ⟨f1, f2⟩ := sub_unit ha e1 (n := 54) ea e2' (by rw [hH]; clear bc bd; omega) (by omega)
  rw [rn_rep (rep_small (z := A - hiOf A) (by rw [hH]; clear bc bd; omega))] at f2
  exact ⟨c1, d1, e1, f1, e2', f2⟩

def prodHi (a b : Nat) : Nat := fmul a b
def prodE1 (a b : Nat) : Nat := fsub (fmul a b) (fmul (splitHi a) (splitHi b))
def prodE2 (a b : Nat) : Nat := fsub (prodE1 a b) (fmul (splitLo a) (splitHi b))
def prodE3 (a b : Nat) : Nat := fsub (prodE2 a b) (fmul (splitHi a) (splitLo b))
def prodLo (a b : Nat) : Nat := fsub (fmul (splitLo a) (splitLo b)) (prodE3 a b)

/-- all that a product goes through is finite; and what it comes to -/
structure ProdFacts (a b : Nat) : Prop where
  p1 : fin (fmul a b)
  p2 : fin (fmul (splitHi a) (splitHi b))
  p3 : fin (prodE1 a b)
  p4 : fin (fmul (splitLo a) (splitHi b))
  p5 : fin (prodE2 a b)
  p6 : fin (fmul (splitHi a) (splitLo b))
  p7 : fin (prodE3 a b)
  p8 : fin (fmul (splitLo a) (splitLo b))
  p9 : fin (prodLo a b)
  v1 : fval (prodHi a b) * 2 ^ unitE = rn (fval a * fval b)
  v2 : fval (prodLo a b) * 2 ^ unitE = fval a * fval b - rn (fval a * fval b)

theorem prod_facts_at {a b : Nat} (ha : fin a) (hb : fin b) {A B : Int} {i j u : Nat} (ea : fval a = A * 2 ^ i) (eb : fval b = B * 2 ^ j) (hA1 : 2 ^ 52 ≤ A.natAbs) (hA2 : A.natAbs < 2 ^ 53) (hB1 : 2 ^ 52 ≤ B.natAbs) (hB2 : B.natAbs < 2 ^ 53)
    (hi : i + 90 < top) (hj : j + 90 < top) (hij : i + j = unitE + u) (hu : u + 120 < top) : ProdFacts a b := by
  obtain ⟨_, _, sa1, sa2, sa3, sa4⟩ := split_val ha ea hA1 hA2 hi
  obtain ⟨_, _, sb1, sb2, sb3, sb4⟩ := split_val hb eb hB1 hB2 hj
  obtain ⟨H, hH, bH, bL⟩ := split_norm hA1 hA2
  obtain ⟨G, hG, bG, bM⟩ := split_norm hB1 hB2
  rw [← hH] at bL
  rw [← hG] at bM
  have bh : (hiOf A).natAbs ≤ 2 ^ 53 := by rw [hH]; omega
  have bg : (hiOf B).natAbs ≤ 2 ^ 53 := by rw [hG]; omega
  have hun := prodRest_unit hA1 hA2 hB1 hB2
  unfold prodRest at hun
  have m1 : (A * B).natAbs ≤ 2 ^ 106 := by have := mul_natAbs_le (Nat.le_of_lt hA2) (Nat.le_of_lt hB2); rwa [← Nat.pow_add] at this
  have m2 : (hiOf A * hiOf B).natAbs ≤ 2 ^ 106 := by have := mul_natAbs_le bh bg; rwa [← Nat.pow_add] at this
  have m3 : ((A - hiOf A) * hiOf B).natAbs ≤ 2 ^ 79 := by have := mul_natAbs_le bL bg; rwa [← Nat.pow_add] at this
  have m4 : (hiOf A * (B - hiOf B)).natAbs ≤ 2 ^ 79 := by have := mul_natAbs_le bh bM; rwa [← Nat.pow_add] at this
  have m5 : ((A - hiOf A) * (B - hiOf B)).natAbs ≤ 2 ^ 52 := by have := mul_natAbs_le bL bM; rwa [← Nat.pow_add] at this
  have eprod : fval a * fval b = A * B * 2 ^ u * 2 ^ unitE := by
    rw [ea, eb, Int.mul_assoc (A * B), ← Int.pow_add, Nat.add_comm u, ← hij, Int.pow_add]; grind
  clear bL bM bH bG hH hG bh bg
  obtain ⟨f1, g1⟩ := mul_unit ha hb ea eb hij m1 (by omega)
  obtain ⟨f2, g2⟩ := mul_unit sa1 sb1 sa3 sb3 hij m2 (by omega)
  have n1 := rn_le_pow m1
  have n2 := rn_le_pow m2
  have n3 := rn_le_pow m3
  have n4 := rn_le_pow m4
  have n5 := rn_le_pow m5
  have k1 := nsub_pow (k := 107) n1 n2 (by omega) (by omega)
  obtain ⟨f3, g3⟩ := sub_unit f1 f2 g1 g2 k1 (by omega)
  have k1' := rn_le_pow k1
  obtain ⟨f4, g4⟩ := mul_unit sa2 sb1 sa4 sb3 hij m3 (by omega)
  have k2 := nsub_pow (k := 108) k1' n3 (by omega) (by omega)
  obtain ⟨f5, g5⟩ := sub_unit f3 f4 g3 g4 k2 (by omega)
  have k2' := rn_le_pow k2
  obtain ⟨f6, g6⟩ := mul_unit sa1 sb2 sa3 sb4 hij m4 (by omega)
  have k3 := nsub_pow (k := 109) k2' n4 (by omega) (by omega)
  obtain ⟨f7, g7⟩ := sub_unit f5 f6 g5 g6 k3 (by omega)
  have k3' := rn_le_pow k3
  obtain ⟨f8, g8⟩ := mul_unit sa2 sb2 sa4 sb4 hij m5 (by omega)
  have k4 := nsub_pow (k := 110) n5 k3' (by omega) (by omega)
  obtain ⟨f9, g9⟩ := sub_unit f8 f7 g8 g7 k4 (by omega)
  refine ⟨f1, f2, f3, f4, f5, f6, f7, f8, f9, ?_, ?_⟩
  · show fval (fmul a b) * 2 ^ unitE = _
    rw [eprod, rn_scale, rn_scale, g1]
  · have g9' : fval (prodLo a b) = (A * B - rn (A * B)) * 2 ^ u := by rw [← hun]; exact g9
    rw [g9', eprod, rn_scale, rn_scale, ← Int.sub_mul, ← Int.sub_mul]

theorem safe_norm {a : Nat} (h : safe a) : ∃ (A : Int) (i : Nat), fval a = A * 2 ^ i ∧ 2 ^ 52 ≤ A.natAbs ∧ A.natAbs < 2 ^ 53 ∧ unitE - 450 ≤ i + 53 ∧ i + 52 ≤ unitE + 450 := by
  have hu := unitE_eq
  obtain ⟨hf, h1, h2⟩ := h
  have h52 : 2 ^ 52 ≤ (fval a).natAbs := Nat.le_trans (Nat.pow_le_pow_right (by omega) (by omega)) h1
  obtain ⟨A, i, e, b1, b2⟩ := rep_norm (rep_fval a) h52
  refine ⟨A, i, e, b1, b2, ?_, ?_⟩
  · rw [e, Int.natAbs_mul, natAbs_two_pow] at h1
    have : A.natAbs * 2 ^ i < 2 ^ 53 * 2 ^ i := Nat.mul_lt_mul_of_pos_right b2 (two_pow_pos _)
    rw [← Nat.pow_add] at this
    have := (Nat.pow_lt_pow_iff_right (show 1 < 2 by omega)).1 (Nat.lt_of_le_of_lt h1 this)
    omega
  · rw [e, Int.natAbs_mul, natAbs_two_pow] at h2
    have : 2 ^ 52 * 2 ^ i ≤ A.natAbs * 2 ^ i := Nat.mul_le_mul_right _ b1
    rw [← Nat.pow_add] at this
    have := (Nat.pow_le_pow_iff_right (show 1 < 2 by omega)).1 (Nat.le_trans this h2)
    omega

theorem prod_facts {a b : Nat} (ha : safe a) (hb : safe b) : ProdFacts a b := by
  have hu := unitE_eq
  have ht := top_eq
  obtain ⟨A, i, ea, a1, a2, a3, a4⟩ := safe_norm ha
  obtain ⟨B, j, eb, b1, b2, b3, b4⟩ := safe_norm hb
  exact prod_facts_at (u := i + j - unitE) ha.1 hb.1 ea eb a1 a2 b1 b2 (by omega) (by omega) (by omega) (by omega)

theorem split_safe {a : Nat} (ha : safe a) (w : World) :
    Calls Tryz.prog 240 #[.float .f64 a] w fun e w' => e = .returned (.tuple #[.float .f64 (splitHi a), .float .f64 (splitLo a)]) ∧ w = w' := by
  have hu := unitE_eq
  have ht := top_eq
  obtain ⟨A, i, ea, a1, a2, a3, a4⟩ := safe_norm ha
  obtain ⟨s1, s2, s3, s4, _, _⟩ := split_val ha.1 ea a1 a2 (by omega)
  exact split_walk a ha.1.1 (safe_true ha) fin_half ha.1 s1 s2 s3 w

theorem split_fins {a : Nat} (ha : safe a) : fin (splitHi a) ∧ fin (splitLo a) := by
  have hu := unitE_eq
  have ht := top_eq
  obtain ⟨A, i, ea, a1, a2, a3, a4⟩ := safe_norm ha
  obtain ⟨s1, s2, s3, s4, _, _⟩ := split_val ha.1 ea a1 a2 (by omega)
  exact ⟨s3, s4⟩

set_option maxRecDepth 100000 in
set_option maxHeartbeats 1000000 in
theorem prod_walk (a b : Nat) (ha : safe a) (hb : safe b) (w : World) :
    Calls Tryz.prog 208 #[.float .f64 a, .float .f64 b] w fun e w' => e = .returned (.tuple #[.float .f64 (prodHi a b), .float .f64 (prodLo a b)]) ∧ Below w.heap.size w w' := by
  obtain ⟨p1, p2, p3, p4, p5, p6, p7, p8, p9, _, _⟩ := prod_facts ha hb
  obtain ⟨sa1, sa2⟩ := split_fins ha
  obtain ⟨sb1, sb2⟩ := split_fins hb
  unfold prodE3 prodE2 prodE1 at p7
  unfold prodE2 prodE1 at p5
  unfold prodE1 at p3
  have ta := safe_true ha
  have tb := safe_true hb
  have HSa := Lib.hid (split_safe ha)
  have HSb := Lib.hid (split_safe hb)
  have ha1 := ha.1
  have hb1 := hb.1
  have ha2 := Lib.hid ha1.1
  have hb2 := Lib.hid hb1.1
  clear ha hb
  go_enter Tryz.func208, Tryz.ntmps208
  go_wp2_with (first | (go_at_call 239; (first | (with_reducible refine (safe_walk a ha2.out _).mono ?_) | (with_reducible refine (safe_walk b hb2.out _).mono ?_)); rintro e w' ⟨rfl, rfl⟩) | (go_at_call 240; (first | (with_reducible refine (HSa.out _).mono ?_) | (with_reducible refine (HSb.out _).mono ?_)); rintro e w' ⟨rfl, rfl⟩) | go_in)
  go_ret2
  exact ⟨rfl, (Below.refl _ _).alloc (Nat.le_refl _) _⟩

end Go.Proofs.YthookkmgmholcaaGreatDoor
