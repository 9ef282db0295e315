/- Part of the proof. No conditions. -/
import Derived.Test.YtdoaniccefdkaaaGreatDoorZ1
import Derived.Test.YtdoaniccefdkaaaGreatDoorZ3

set_option linter.all false
/- eft.Diff, eft.Safe, eft.Split, eft.Prod. -/
namespace Go.Proofs.YtdoaniccefdkaaaGreatDoor
open Go.RowKit Tvf

theorem tame_opp {x : Nat} (h : tame x) : tame (fopp x) := ⟨fopp_fin h.1, by rw [fopp_val h.1.1, Int.natAbs_neg]; exact h.2⟩

set_option maxRecDepth 100000 in
set_option maxHeartbeats 400000 in
theorem diff_walk (a b : Nat) (ha : tame a) (hb : tame b) (w : World) :
    Calls Tryz.prog 188 #[.float .f64 a, .float .f64 b] w fun e w' => e = .returned (.tuple #[.float .f64 (sumHi a (fopp b)), .float .f64 (sumLo a (fopp b))]) ∧ Below w.heap.size w w' := by
  have HS := Lib.hid (sum_walk a (fopp b) ha (tame_opp hb))
  clear ha hb
  go_enter Tryz.func188, Tryz.ntmps188
  go_wp2_with (go_at_call 253; refine (HS.out _).mono ?_; rintro e w' ⟨rfl, hb⟩)
  go_ret2
  exact ⟨rfl, hb⟩

/-- what a difference comes to -/
theorem diff_val {a b : Nat} (ha : tame a) (hb : tame b) : fin (sumHi a (fopp b)) ∧ fin (sumLo a (fopp b)) ∧ fval (sumHi a (fopp b)) = rn (fval a - fval b) ∧ fval (sumLo a (fopp b)) = fval a - fval b - rn (fval a - fval b) := by
  obtain ⟨s1, _, _, _, _, s6, s7, s8⟩ := sum_fin ha (tame_opp hb)
  rw [fopp_val hb.1.1] at s7 s8
  exact ⟨s1, s6, by rw [s7]; rfl, by rw [s8]; rfl⟩

def safeB (x : Nat) : Bool := feq (x % 2 ^ 63) 0 || (fge (x % 2 ^ 63) 2580562586483294208 && fle (x % 2 ^ 63) 6633802251116740608)

set_option maxRecDepth 100000 in
set_option maxHeartbeats 400000 in
theorem safe_walk (x : Nat) (h64 : x < 2 ^ 64) (w : World) :
    Calls Tryz.prog 332 #[.float .f64 x] w fun e w' => e = .returned (.bool (safeB x)) ∧ w = w' := by
  unfold safeB
  cases h1 : feq (x % 2 ^ 63) 0 <;> cases h2 : fge (x % 2 ^ 63) 2580562586483294208
  all_goals
    go_enter Tryz.func332, Tryz.ntmps332
    go_wp2_with (go_at_call 184; refine (abs_any _ h64 _).mono ?_; rintro e w' ⟨rfl, rfl⟩)
    go_ret
    exact ⟨rfl, rfl⟩

/-- neither very great nor very small -/
def safe (x : Nat) : Prop := fin x ∧ 2 ^ (unitE - 450) ≤ (fval x).natAbs ∧ (fval x).natAbs ≤ 2 ^ (unitE + 450)

theorem fval_m450 : fval 2580562586483294208 = 2 ^ (unitE - 450) :=
  fval_pow (F := 573) (by unfold fin; omega) (by omega) (by omega) (by omega) (by omega) rfl
theorem fval_p450 : fval 6633802251116740608 = 2 ^ (unitE + 450) :=
  fval_pow (F := 1473) (by unfold fin; omega) (by omega) (by omega) (by omega) (by omega) rfl

theorem safe_true {x : Nat} (h : safe x) : safeB x = true := by
  unfold safeB
  rw [fge_val (fin_abs h.1) (by unfold fin; omega), fle_val (fin_abs h.1) (by unfold fin; omega), fval_abs, fval_m450, fval_p450]
  have h1 := h.2.1
  have h2 := h.2.2
  obtain ⟨p, hp⟩ : ∃ p : Nat, p = 2 ^ (unitE - 450) := ⟨_, rfl⟩
  obtain ⟨q, hq⟩ : ∃ q : Nat, q = 2 ^ (unitE + 450) := ⟨_, rfl⟩
  have c1 : (p : Int) = (2 : Int) ^ (unitE - 450) := by rw [hp]; simp
  have c2 : (q : Int) = (2 : Int) ^ (unitE + 450) := by rw [hq]; simp
  rw [← c1, ← c2]
  rw [← hp] at h1
  rw [← hq] at h2
  have d1 : decide ((p : Int) ≤ ((fval x).natAbs : Int)) = true := by simp; omega
  have d2 : decide (((fval x).natAbs : Int) ≤ (q : Int)) = true := by simp; omega
  rw [d1, d2]; simp

def splitC (a : Nat) : Nat := fmul 4728779608772575232 a
def splitHi (a : Nat) : Nat := fsub (splitC a) (fsub (splitC a) a)
def splitLo (a : Nat) : Nat := fsub a (splitHi a)

set_option maxRecDepth 100000 in
set_option maxHeartbeats 400000 in
theorem split_walk (a : Nat) (h64 : a < 2 ^ 64) (hs : safeB a = true) (h0 : fin 4728779608772575232) (h1 : fin a) (h2 : fin (fmul 4728779608772575232 a)) (h3 : fin (fsub (fmul 4728779608772575232 a) a)) (h4 : fin (fsub (fmul 4728779608772575232 a) (fsub (fmul 4728779608772575232 a) a))) (w : World) :
    Calls Tryz.prog 333 #[.float .f64 a] w fun e w' => e = .returned (.tuple #[.float .f64 (splitHi a), .float .f64 (splitLo a)]) ∧ w = w' := by
  go_enter Tryz.func333, Tryz.ntmps333
  go_wp2_with (go_at_call 332; refine (safe_walk _ h64 _).mono ?_; rw [hs]; rintro e w' ⟨rfl, rfl⟩)
  go_ret2
  exact ⟨rfl, rfl⟩

/-- a product over units -/
theorem mul_unit {x y : Nat} (hx : fin x) (hy : fin y) {P Q : Int} {i j u n : Nat} (ex : fval x = P * 2 ^ i) (ey : fval y = Q * 2 ^ j) (hij : i + j = unitE + u) (hb : (P * Q).natAbs ≤ 2 ^ n) (hn : n + u < top) :
    fin (fmul x y) ∧ fval (fmul x y) = rn (P * Q) * 2 ^ u := by
  have hz : fval x * fval y = (P * Q * 2 ^ u) * 2 ^ unitE := by
    rw [ex, ey, Int.mul_assoc (P * Q), ← Int.pow_add, Nat.add_comm u, ← hij, Int.pow_add]; grind
  have hr : inReach (P * Q * 2 ^ u) := by
    refine inReach_le (k := n + u) ?_ hn
    rw [Int.natAbs_mul, natAbs_two_pow, Nat.pow_add]
    exact Nat.mul_le_mul_right _ hb
  have := fmul_val hx hy hz hr
  rw [rn_scale] at this
  exact this

theorem sub_unit {x y : Nat} (hx : fin x) (hy : fin y) {P Q : Int} {u n : Nat} (ex : fval x = P * 2 ^ u) (ey : fval y = Q * 2 ^ u) (hb : (P - Q).natAbs ≤ 2 ^ n) (hn : n + u < top) :
    fin (fsub x y) ∧ fval (fsub x y) = rn (P - Q) * 2 ^ u := by
  have hz : fval x - fval y = (P - Q) * 2 ^ u := by rw [ex, ey, Int.sub_mul]
  have hr : inReach (fval x - fval y) := by
    rw [hz]
    refine inReach_le (k := n + u) ?_ hn
    rw [Int.natAbs_mul, natAbs_two_pow, Nat.pow_add]
    exact Nat.mul_le_mul_right _ hb
  have := fsub_val hx hy hr
  rw [hz, rn_scale] at this
  exact this

theorem fin_half : fin 4728779608772575232 := by unfold fin; omega
theorem fval_half : fval 4728779608772575232 = 134217729 * 2 ^ unitE := by
  have hf := fin_half
  have h := fval_norm hf (by omega)
  have e1 : (4728779608772575232 : Nat) / 2 ^ 52 % 2048 = 1050 := by omega
  have e2 : (4728779608772575232 : Nat) % 2 ^ 52 = 2 ^ 25 := by omega
  have e3 : fneg 4728779608772575232 = false := by decide
  rw [e1, e2, e3] at h
  obtain ⟨k, hk⟩ : ∃ k : Nat, k = 1050 - 1 := ⟨_, rfl⟩
  rw [← hk] at h
  rw [h, show (2 ^ 52 + 2 ^ 25 : Nat) = 134217729 * 2 ^ 25 by decide, Nat.mul_assoc, ← Nat.pow_add, show 25 + k = unitE by have := unitE_eq; omega]
  show ((134217729 * 2 ^ unitE : Nat) : Int) = _
  simp

theorem rn_abs_le {z : Int} {n : Nat} (h : z.natAbs ≤ 2 ^ n) : (rn z).natAbs ≤ 2 ^ n := rn_le_pow h

/-- the halves of a number -/
theorem split_val {a : Nat} (ha : fin a) {A : Int} {i : Nat} (ea : fval a = A * 2 ^ i) (h1 : 2 ^ 52 ≤ A.natAbs) (h2 : A.natAbs < 2 ^ 53) (hi : i + 90 < top) :
    fin (splitC a) ∧ fin (fsub (splitC a) a) ∧ fin (splitHi a) ∧ fin (splitLo a) ∧ fval (splitHi a) = hiOf A * 2 ^ i ∧ fval (splitLo a) = (A - hiOf A) * 2 ^ i := by
  have hu := unitE_eq
  obtain ⟨H, hH, bH, bL⟩ := split_norm h1 h2
  obtain ⟨c1, c2⟩ := mul_unit fin_half ha (n := 81) fval_half ea rfl (by omega) (by omega)
  have bc : (rn (134217729 * A)).natAbs ≤ 2 ^ 81 := rn_le_pow (by omega)
  obtain ⟨d1, d2⟩ := sub_unit c1 ha (n := 82) c2 ea (by clear hH bH bL; omega) (by omega)
  have bd : (rn (rn (134217729 * A) - A)).natAbs ≤ 2 ^ 82 := rn_le_pow (by clear hH bH bL; omega)
  obtain ⟨e1, e2⟩ := sub_unit c1 d1 (n := 83) c2 d2 (by clear hH bH bL; omega) (by omega)
  have e2' : fval (splitHi a) = hiOf A * 2 ^ i := e2
  obtain ⟨f1, f2⟩ := sub_unit ha e1 (n := 54) ea e2' (by rw [hH]; clear bc bd; omega) (by omega)
  rw [rn_rep (rep_small (z := A - hiOf A) (by rw [hH]; clear bc bd; omega))] at f2
  exact ⟨c1, d1, e1, f1, e2', f2⟩

def prodHi (a b : Nat) : Nat := fmul a b
def prodE1 (a b : Nat) : Nat := fsub (fmul a b) (fmul (splitHi a) (splitHi b))
def prodE2 (a b : Nat) : Nat := fsub (prodE1 a b) (fmul (splitLo a) (splitHi b))
def prodE3 (a b : Nat) : Nat := fsub (prodE2 a b) (fmul (splitHi a) (splitLo b))
def prodLo (a b : Nat) : Nat := fsub (fmul (splitLo a) (splitLo b)) (prodE3 a b)

/-- all that a product goes through is finite; and what it comes to -/
structure ProdFacts (a b : Nat) : Prop where
  p1 : fin (fmul a b)
  p2 : fin (fmul (splitHi a) (splitHi b))
  p3 : fin (prodE1 a b)
  p4 : fin (fmul (splitLo a) (splitHi b))
  p5 : fin (prodE2 a b)
  p6 : fin (fmul (splitHi a) (splitLo b))
  p7 : fin (prodE3 a b)
  p8 : fin (fmul (splitLo a) (splitLo b))
  p9 : fin (prodLo a b)
  v1 : fval (prodHi a b) * 2 ^ unitE = rn (fval a * fval b)
  v2 : fval (prodLo a b) * 2 ^ unitE = fval a * fval b - rn (fval a * fval b)

theorem prod_facts_at {a b : Nat} (ha : fin a) (hb : fin b) {A B : Int} {i j u : Nat} (ea : fval a = A * 2 ^ i) (eb : fval b = B * 2 ^ j) (hA1 : 2 ^ 52 ≤ A.natAbs) (hA2 : A.natAbs < 2 ^ 53) (hB1 : 2 ^ 52 ≤ B.natAbs) (hB2 : B.natAbs < 2 ^ 53)
    (hi : i + 90 < top) (hj : j + 90 < top) (hij : i + j = unitE + u) (hu : u + 120 < top) : ProdFacts a b := by
  obtain ⟨_, _, sa1, sa2, sa3, sa4⟩ := split_val ha ea hA1 hA2 hi
  obtain ⟨_, _, sb1, sb2, sb3, sb4⟩ := split_val hb eb hB1 hB2 hj
  obtain ⟨H, hH, bH, bL⟩ := split_norm hA1 hA2
  obtain ⟨G, hG, bG, bM⟩ := split_norm hB1 hB2
  rw [← hH] at bL
  rw [← hG] at bM
  have bh : (hiOf A).natAbs ≤ 2 ^ 53 := by rw [hH]; omega
  have bg : (hiOf B).natAbs ≤ 2 ^ 53 := by rw [hG]; omega
  have hun := prodRest_unit hA1 hA2 hB1 hB2
  unfold prodRest at hun
  have m1 : (A * B).natAbs ≤ 2 ^ 106 := by have := mul_natAbs_le (Nat.le_of_lt hA2) (Nat.le_of_lt hB2); rwa [← Nat.pow_add] at this
  have m2 : (hiOf A * hiOf B).natAbs ≤ 2 ^ 106 := by have := mul_natAbs_le bh bg; rwa [← Nat.pow_add] at this
  have m3 : ((A - hiOf A) * hiOf B).natAbs ≤ 2 ^ 79 := by have := mul_natAbs_le bL bg; rwa [← Nat.pow_add] at this
  have m4 : (hiOf A * (B - hiOf B)).natAbs ≤ 2 ^ 79 := by have := mul_natAbs_le bh bM; rwa [← Nat.pow_add] at this
  have m5 : ((A - hiOf A) * (B - hiOf B)).natAbs ≤ 2 ^ 52 := by have := mul_natAbs_le bL bM; rwa [← Nat.pow_add] at this
  have eprod : fval a * fval b = A * B * 2 ^ u * 2 ^ unitE := by
    rw [ea, eb, Int.mul_assoc (A * B), ← Int.pow_add, Nat.add_comm u, ← hij, Int.pow_add]; grind
  clear bL bM bH bG hH hG bh bg
  obtain ⟨f1, g1⟩ := mul_unit ha hb ea eb hij m1 (by omega)
  obtain ⟨f2, g2⟩ := mul_unit sa1 sb1 sa3 sb3 hij m2 (by omega)
  have n1 := rn_le_pow m1
  have n2 := rn_le_pow m2
  have n3 := rn_le_pow m3
  have n4 := rn_le_pow m4
  have n5 := rn_le_pow m5
  have k1 := nsub_pow (k := 107) n1 n2 (by omega) (by omega)
  obtain ⟨f3, g3⟩ := sub_unit f1 f2 g1 g2 k1 (by omega)
  have k1' := rn_le_pow k1
  obtain ⟨f4, g4⟩ := mul_unit sa2 sb1 sa4 sb3 hij m3 (by omega)
  have k2 := nsub_pow (k := 108) k1' n3 (by omega) (by omega)
  obtain ⟨f5, g5⟩ := sub_unit f3 f4 g3 g4 k2 (by omega)
  have k2' := rn_le_pow k2
  obtain ⟨f6, g6⟩ := mul_unit sa1 sb2 sa3 sb4 hij m4 (by omega)
  have k3 := nsub_pow (k := 109) k2' n4 (by omega) (by omega)
  obtain ⟨f7, g7⟩ := sub_unit f5 f6 g5 g6 k3 (by omega)
  have k3' := rn_le_pow k3
  obtain ⟨f8, g8⟩ := mul_unit sa2 sb2 sa4 sb4 hij m5 (by omega)
  have k4 := nsub_pow (k := 110) n5 k3' (by omega) (by omega)
  obtain ⟨f9, g9⟩ := sub_unit f8 f7 g8 g7 k4 (by omega)
  refine ⟨f1, f2, f3, f4, f5, f6, f7, f8, f9, ?_, ?_⟩
  · show fval (fmul a b) * 2 ^ unitE = _
    rw [eprod, rn_scale, rn_scale, g1]
  · have g9' : fval (prodLo a b) = (A * B - rn (A * B)) * 2 ^ u := by rw [← hun]; exact g9
    rw [g9', eprod, rn_scale, rn_scale, ← Int.sub_mul, ← Int.sub_mul]

theorem safe_norm {a : Nat} (h : safe a) : ∃ (A : Int) (i : Nat), fval a = A * 2 ^ i ∧ 2 ^ 52 ≤ A.natAbs ∧ A.natAbs < 2 ^ 53 ∧ unitE - 450 ≤ i + 53 ∧ i + 52 ≤ unitE + 450 := by
  have hu := unitE_eq
  obtain ⟨hf, h1, h2⟩ := h
  have h52 : 2 ^ 52 ≤ (fval a).natAbs := Nat.le_trans (Nat.pow_le_pow_right (by omega) (by omega)) h1
  obtain ⟨A, i, e, b1, b2⟩ := rep_norm (rep_fval a) h52
  refine ⟨A, i, e, b1, b2, ?_, ?_⟩
  · rw [e, Int.natAbs_mul, natAbs_two_pow] at h1
    have : A.natAbs * 2 ^ i < 2 ^ 53 * 2 ^ i := Nat.mul_lt_mul_of_pos_right b2 (two_pow_pos _)
    rw [← Nat.pow_add] at this
    have := (Nat.pow_lt_pow_iff_right (show 1 < 2 by omega)).1 (Nat.lt_of_le_of_lt h1 this)
    omega
  · rw [e, Int.natAbs_mul, natAbs_two_pow] at h2
    have : 2 ^ 52 * 2 ^ i ≤ A.natAbs * 2 ^ i := Nat.mul_le_mul_right _ b1
    rw [← Nat.pow_add] at this
    have := (Nat.pow_le_pow_iff_right (show 1 < 2 by omega)).1 (Nat.le_trans this h2)
    omega

theorem prod_facts {a b : Nat} (ha : safe a) (hb : safe b) : ProdFacts a b := by
  have hu := unitE_eq
  have ht := top_eq
  obtain ⟨A, i, ea, a1, a2, a3, a4⟩ := safe_norm ha
  obtain ⟨B, j, eb, b1, b2, b3, b4⟩ := safe_norm hb
  exact prod_facts_at (u := i + j - unitE) ha.1 hb.1 ea eb a1 a2 b1 b2 (by omega) (by omega) (by omega) (by omega)

theorem split_safe {a : Nat} (ha : safe a) (w : World) :
    Calls Tryz.prog 333 #[.float .f64 a] w fun e w' => e = .returned (.tuple #[.float .f64 (splitHi a), .float .f64 (splitLo a)]) ∧ w = w' := by
  have hu := unitE_eq
  have ht := top_eq
  obtain ⟨A, i, ea, a1, a2, a3, a4⟩ := safe_norm ha
  obtain ⟨s1, s2, s3, s4, _, _⟩ := split_val ha.1 ea a1 a2 (by omega)
  exact split_walk a ha.1.1 (safe_true ha) fin_half ha.1 s1 s2 s3 w

theorem split_fins {a : Nat} (ha : safe a) : fin (splitHi a) ∧ fin (splitLo a) := by
  have hu := unitE_eq
  have ht := top_eq
  obtain ⟨A, i, ea, a1, a2, a3, a4⟩ := safe_norm ha
  obtain ⟨s1, s2, s3, s4, _, _⟩ := split_val ha.1 ea a1 a2 (by omega)
  exact ⟨s3, s4⟩

set_option maxRecDepth 100000 in
set_option maxHeartbeats 1000000 in
theorem prod_walk (a b : Nat) (ha : safe a) (hb : safe b) (w : World) :
    Calls Tryz.prog 300 #[.float .f64 a, .float .f64 b] w fun e w' => e = .returned (.tuple #[.float .f64 (prodHi a b), .float .f64 (prodLo a b)]) ∧ Below w.heap.size w w' := by
  obtain ⟨p1, p2, p3, p4, p5, p6, p7, p8, p9, _, _⟩ := prod_facts ha hb
  obtain ⟨sa1, sa2⟩ := split_fins ha
  obtain ⟨sb1, sb2⟩ := split_fins hb
  unfold prodE3 prodE2 prodE1 at p7
  unfold prodE2 prodE1 at p5
  unfold prodE1 at p3
  have ta := safe_true ha
  have tb := safe_true hb
  have HSa := Lib.hid (split_safe ha)
  have HSb := Lib.hid (split_safe hb)
  have ha1 := ha.1
  have hb1 := hb.1
  have ha2 := Lib.hid ha1.1
  have hb2 := Lib.hid hb1.1
  clear ha hb
  go_enter Tryz.func300, Tryz.ntmps300
  go_wp2_with (first | (go_at_call 332; (first | (with_reducible refine (safe_walk a ha2.out _).mono ?_) | (with_reducible refine (safe_walk b hb2.out _).mono ?_)); rintro e w' ⟨rfl, rfl⟩) | (go_at_call 333; (first | (with_reducible refine (HSa.out _).mono ?_) | (with_reducible refine (HSb.out _).mono ?_)); rintro e w' ⟨rfl, rfl⟩) | go_in)
  go_ret2
  exact ⟨rfl, (Below.refl _ _).alloc (Nat.le_refl _) _⟩

end Go.Proofs.YtdoaniccefdkaaaGreatDoor

/- Expansions as lists of whole numbers: growing and making neat, the plain theory. -/
namespace Tvf

def absSum : List Int → Nat
  | [] => 0
  | x :: r => x.natAbs + absSum r
def isum : List Int → Int
  | [] => 0
  | x :: r => x + isum r

theorem isum_append (a b : List Int) : isum (a ++ b) = isum a + isum b := by
  induction a with
  | nil => simp [isum]
  | cons x r ih => simp only [List.cons_append, isum, ih]; omega
theorem absSum_append (a b : List Int) : absSum (a ++ b) = absSum a + absSum b := by
  induction a with
  | nil => simp [absSum]
  | cons x r ih => simp only [List.cons_append, absSum, ih]; omega
theorem isum_reverse (a : List Int) : isum a.reverse = isum a := by
  induction a with
  | nil => rfl
  | cons x r ih => rw [List.reverse_cons, isum_append, ih]; simp only [isum]; omega
theorem isum_le (a : List Int) : (isum a).natAbs ≤ absSum a := by
  induction a with
  | nil => simp [isum, absSum]
  | cons x r ih => simp only [isum, absSum]; omega
theorem absSum_mem {a : List Int} {x : Int} (h : x ∈ a) : x.natAbs ≤ absSum a := by
  induction a with
  | nil => cases h
  | cons y r ih =>
    simp only [absSum]
    rcases List.mem_cons.1 h with h | h
    · subst h; omega
    · have := ih h; omega

/-- of a rounding: its unit, the error, and that a tie is even -/
theorem rn_unit (z : Int) : ∃ k : Nat, (∃ q : Int, rn z = q * 2 ^ k) ∧ 2 * (rn z - z).natAbs ≤ 2 ^ k ∧
    (rn z ≠ z → 2 ^ (52 + k) ≤ z.natAbs ∧ 1 ≤ k) ∧ (2 * (rn z - z).natAbs = 2 ^ k → ∃ q : Int, rn z = q * 2 ^ (k + 1)) := by
  have key : ∀ n : Nat, ∃ k : Nat, (∃ q : Nat, rnN n = q * 2 ^ k) ∧ (2 * rnN n ≤ 2 * n + 2 ^ k ∧ 2 * n ≤ 2 * rnN n + 2 ^ k) ∧
      (rnN n ≠ n → 2 ^ (52 + k) ≤ n ∧ 1 ≤ k) ∧ (2 * rnN n = 2 * n + 2 ^ k ∨ 2 * n = 2 * rnN n + 2 ^ k → ∃ q : Nat, rnN n = q * 2 ^ (k + 1)) := by
    intro n
    refine ⟨ulpE n, ⟨_, rfl⟩, cutE_err n (ulpE n), ?_, ?_⟩
    · intro h
      have h1 : 1 ≤ ulpE n := by
        apply Classical.byContradiction
        intro hc
        exact h (rnN_small n (ulpE_zero n (by omega)))
      exact ⟨(ulpE_lo n _ rfl h1).1, h1⟩
    · intro h
      have hp := two_pow_pos (ulpE n)
      have hd := Nat.div_add_mod n (2 ^ ulpE n)
      have hm := Nat.mod_lt n hp
      unfold rnN at h ⊢
      have hev : cutE n (ulpE n) % 2 = 0 := by
        unfold cutE at h ⊢
        rw [Nat.mul_comm] at hd
        generalize 2 ^ ulpE n = p at *
        generalize n % p = r at *
        generalize n / p = l at *
        split
        · rename_i hc
          rw [if_pos hc, Nat.add_mul] at h
          rcases hc with hc | hc
          · omega
          · omega
        · rename_i hc
          rw [if_neg hc, Nat.add_zero] at h
          have h2 : p = 2 * r := by omega
          have : ¬ l % 2 = 1 := fun h3 => hc (Or.inr ⟨h2, h3⟩)
          omega
      refine ⟨cutE n (ulpE n) / 2, ?_⟩
      rw [Nat.pow_succ, Nat.mul_comm (2 ^ ulpE n), ← Nat.mul_assoc, show cutE n (ulpE n) / 2 * 2 = cutE n (ulpE n) by omega]
  obtain ⟨k, ⟨q, hq⟩, h1, h2, h3⟩ := key z.natAbs
  have cast : ∀ (a b : Nat), ((a * 2 ^ b : Nat) : Int) = (a : Int) * 2 ^ b := fun a b => by simp
  refine ⟨k, ?_, ?_, ?_, ?_⟩
  · unfold rn; rw [hq, cast]
    split
    · exact ⟨-q, by rw [Int.neg_mul]⟩
    · exact ⟨q, rfl⟩
  · clear h3 h2 hq; unfold rn; split <;> omega
  · intro h
    refine h2 ?_
    clear h3 h2 hq
    intro e; apply h; unfold rn; rw [e]; split <;> omega
  · intro h
    have hp : 2 * rnN z.natAbs = 2 * z.natAbs + 2 ^ k ∨ 2 * z.natAbs = 2 * rnN z.natAbs + 2 ^ k := by
      clear h3 h2 hq
      unfold rn at h; split at h <;> omega
    obtain ⟨q', hq'⟩ := h3 hp
    unfold rn; rw [hq', cast]
    split
    · exact ⟨-q', by rw [Int.neg_mul]⟩
    · exact ⟨q', rfl⟩

/-- a rounded multiple is a multiple -/
theorem rn_dvd {z : Int} {k : Nat} (h : (2 : Int) ^ k ∣ z) : (2 : Int) ^ k ∣ rn z := by
  obtain ⟨q, rfl⟩ := h
  rw [Int.mul_comm, rn_scale]; exact ⟨rn q, Int.mul_comm _ _⟩

theorem rest_le_right {q x : Int} (hq : rep q) : (q + x - rn (q + x)).natAbs ≤ x.natAbs := by
  have := rn_near (q + x) q hq; omega

/-- 2^k divides what is not nought and smaller than 2^j: then k < j -/
theorem dvd_lt {k j : Nat} {x : Int} (h : (2 : Int) ^ k ∣ x) (h0 : x ≠ 0) (hl : x.natAbs < 2 ^ j) : k < j := by
  have h1 : 2 ^ k ≤ x.natAbs := by
    have := Int.natAbs_dvd_natAbs.2 h
    rw [Int.natAbs_pow] at this
    exact Nat.le_of_dvd (by omega) this
  exact (Nat.pow_lt_pow_iff_right (show 1 < 2 by omega)).1 (Nat.lt_of_le_of_lt h1 hl)

theorem dvd_mono {k j : Nat} (h : k ≤ j) {x : Int} (hx : (2 : Int) ^ j ∣ x) : (2 : Int) ^ k ∣ x := by
  refine Int.dvd_trans ?_ hx
  exact ⟨2 ^ (j - k), by rw [← Int.pow_add, show k + (j - k) = j by omega]⟩

/-- one upon the other: each is a multiple of a power of two above the one before it -/
def nov : Nat → List Int → Prop
  | _, [] => True
  | p, x :: r => x ≠ 0 ∧ (∃ k : Nat, p < 2 ^ k ∧ (2 : Int) ^ k ∣ x) ∧ nov x.natAbs r

theorem nov_all {p : Nat} {x : Int} {r : List Int} (h : nov p (x :: r)) {k : Nat} (hk : (2 : Int) ^ k ∣ x) : ∀ y, y ∈ r → (2 : Int) ^ k ∣ y := by
  induction r generalizing p x k with
  | nil => intro y hy; cases hy
  | cons z r ih =>
    obtain ⟨h1, _, h3⟩ := h
    obtain ⟨z1, ⟨j, hj1, hj2⟩, z3⟩ := h3
    have hkj := dvd_lt hk h1 hj1
    have hz := dvd_mono (Nat.le_of_lt hkj) hj2
    intro y hy
    rcases List.mem_cons.1 hy with e | e
    · subst e; exact hz
    · exact ih (p := x.natAbs) ⟨z1, ⟨j, hj1, hj2⟩, z3⟩ hz y e

theorem nov_mono {p p' : Nat} (h : p' ≤ p) {l : List Int} (hl : nov p l) : nov p' l := by
  cases l with
  | nil => trivial
  | cons x r => exact ⟨hl.1, hl.2.1.imp fun k hk => ⟨Nat.lt_of_le_of_lt h hk.1, hk.2⟩, hl.2.2⟩

/-- growing, from a carried number on -/
def growGo : Int → List Int → List Int
  | q, [] => if q = 0 then [] else [q]
  | q, x :: r => if q + x - rn (q + x) = 0 then growGo (rn (q + x)) r else (q + x - rn (q + x)) :: growGo (rn (q + x)) r

theorem growGo_sum (e : List Int) : ∀ q, isum (growGo q e) = q + isum e := by
  induction e with
  | nil => intro q; unfold growGo; split <;> simp [isum] <;> omega
  | cons x r ih =>
    intro q; unfold growGo
    split
    · rw [ih]; simp only [isum]; omega
    · simp only [isum, ih]; omega

theorem growGo_len (e : List Int) : ∀ q, (growGo q e).length ≤ e.length + 1 := by
  induction e with
  | nil => intro q; unfold growGo; split <;> simp
  | cons x r ih =>
    intro q; unfold growGo
    have := ih (rn (q + x))
    split
    · simp only [List.length_cons]; omega
    · simp only [List.length_cons]; omega

theorem growGo_nz (e : List Int) : ∀ q, ∀ y, y ∈ growGo q e → y ≠ 0 := by
  induction e with
  | nil =>
    intro q y hy; unfold growGo at hy; split at hy
    · cases hy
    · rename_i h; simp at hy; rw [hy]; exact h
  | cons x r ih =>
    intro q y hy; unfold growGo at hy
    split at hy
    · exact ih _ y hy
    · rename_i h
      rcases List.mem_cons.1 hy with e | e
      · rw [e]; exact h
      · exact ih _ y e

theorem growGo_dvd (k : Nat) (e : List Int) : ∀ q, (2 : Int) ^ k ∣ q → (∀ y, y ∈ e → (2 : Int) ^ k ∣ y) → ∀ y, y ∈ growGo q e → (2 : Int) ^ k ∣ y := by
  induction e with
  | nil =>
    intro q hq _ y hy; unfold growGo at hy; split at hy
    · cases hy
    · simp at hy; rw [hy]; exact hq
  | cons x r ih =>
    intro q hq he y hy; unfold growGo at hy
    have hs : (2 : Int) ^ k ∣ q + x := Int.dvd_add hq (he x (List.mem_cons_self ..))
    have hr := rn_dvd hs
    split at hy
    · exact ih _ hr (fun y hy => he y (List.mem_cons_of_mem _ hy)) y hy
    · rcases List.mem_cons.1 hy with e | e
      · rw [e]; exact Int.dvd_sub hs hr
      · exact ih _ hr (fun y hy => he y (List.mem_cons_of_mem _ hy)) y e

theorem growGo_rep (e : List Int) : ∀ q, rep q → (∀ y, y ∈ e → rep y) → ∀ y, y ∈ growGo q e → rep y := by
  induction e with
  | nil =>
    intro q hq _ y hy; unfold growGo at hy; split at hy
    · cases hy
    · simp at hy; rw [hy]; exact hq
  | cons x r ih =>
    intro q hq he y hy; unfold growGo at hy
    split at hy
    · exact ih _ (rep_rn _) (fun y hy => he y (List.mem_cons_of_mem _ hy)) y hy
    · rcases List.mem_cons.1 hy with e | e
      · rw [e]; exact sum_rest hq (he x (List.mem_cons_self ..))
      · exact ih _ (rep_rn _) (fun y hy => he y (List.mem_cons_of_mem _ hy)) y e

/-- what comes of growing lies one upon the other -/
theorem growGo_nov (e : List Int) : ∀ (p c : Nat) (q : Int), rep q → (∃ k : Nat, p < 2 ^ k ∧ (2 : Int) ^ k ∣ q ∧ ∀ y, y ∈ e → (2 : Int) ^ k ∣ y) → nov c e → nov p (growGo q e) := by
  induction e with
  | nil =>
    intro p c q _ ⟨k, h1, h2, _⟩ _
    unfold growGo; split
    · trivial
    · rename_i h; exact ⟨h, ⟨k, h1, h2⟩, trivial⟩
  | cons x r ih =>
    intro p c q hq ⟨k, h1, h2, h3⟩ hn
    have hs : (2 : Int) ^ k ∣ q + x := Int.dvd_add h2 (h3 x (List.mem_cons_self ..))
    have hr := rn_dvd hs
    unfold growGo
    split
    · exact ih p x.natAbs _ (rep_rn _) ⟨k, h1, hr, fun y hy => h3 y (List.mem_cons_of_mem _ hy)⟩ hn.2.2
    · rename_i hne
      refine ⟨hne, ⟨k, h1, Int.dvd_sub hs hr⟩, ?_⟩
      refine ih _ x.natAbs _ (rep_rn _) ?_ hn.2.2
      obtain ⟨ks, ⟨qs, hqs⟩, he, h5, h6⟩ := rn_unit (q + x)
      clear h5 h6
      have hlt : (q + x - rn (q + x)).natAbs < 2 ^ ks := by
        have := two_pow_pos ks; omega
      have hle := rest_le_right (x := x) hq
      cases r with
      | nil => exact ⟨ks, hlt, ⟨qs, by rw [hqs, Int.mul_comm]⟩, fun y hy => by cases hy⟩
      | cons z r =>
        obtain ⟨j, hj1, hj2⟩ := hn.2.2.2.1
        have hall := nov_all hn.2.2 hj2
        refine ⟨min ks j, ?_, dvd_mono (Nat.min_le_left _ _) ⟨qs, by rw [hqs, Int.mul_comm]⟩, ?_⟩
        · by_cases hc : ks ≤ j
          · rw [Nat.min_eq_left hc]; exact hlt
          · rw [Nat.min_eq_right (by omega)]; omega
        · intro y hy
          refine dvd_mono (Nat.min_le_right _ _) ?_
          rcases List.mem_cons.1 hy with e | e
          · rw [e]; exact hj2
          · exact hall y e

/-! ### how great -/

theorem rest_small (z : Int) : 2 ^ 53 * (z - rn z).natAbs ≤ z.natAbs := by
  obtain ⟨k, h4, h1, h2, h3⟩ := rn_unit z
  clear h4 h3
  by_cases h : rn z = z
  · rw [h]; simp
  · have := (h2 h).1
    rw [Nat.pow_add] at this
    omega

/-- what is cut off on the way: its sum is small -/
def cutSum : Int → List Int → Nat
  | _, [] => 0
  | q, x :: r => (q + x - rn (q + x)).natAbs + cutSum (rn (q + x)) r

theorem growGo_abs1 (e : List Int) : ∀ q : Int, absSum (growGo q e) ≤ q.natAbs + absSum e + 2 * cutSum q e := by
  induction e with
  | nil => intro q; unfold growGo; split <;> simp [absSum, cutSum]
  | cons x r ih =>
    intro q; unfold growGo
    have := ih (rn (q + x))
    simp only [absSum, cutSum]
    split
    · omega
    · simp only [absSum]; omega

/-- each step cuts off but a small part of all that there is -/
theorem cutSum_le (e : List Int) : ∀ (q : Int) (A : Nat), q.natAbs + absSum e ≤ A → 2 ^ 52 * cutSum q e ≤ e.length * (A + 2 * cutSum q e) := by
  induction e with
  | nil => intro q A _; simp [cutSum]
  | cons x r ih =>
    intro q A hA
    simp only [cutSum, absSum, List.length_cons] at *
    have h1 := rest_small (q + x)
    have h3 : (q + x).natAbs ≤ A := by omega
    generalize hh : (q + x - rn (q + x)).natAbs = H at *
    have h2 : (rn (q + x)).natAbs + absSum r ≤ A + H := by omega
    have h4 := ih (rn (q + x)) (A + H) h2
    generalize cutSum (rn (q + x)) r = C at *
    have e1 : (r.length + 1) * (A + 2 * (H + C)) = r.length * (A + 2 * (H + C)) + (A + 2 * (H + C)) := by rw [Nat.add_mul, Nat.one_mul]
    have e2 : r.length * (A + H + 2 * C) ≤ r.length * (A + 2 * (H + C)) := Nat.mul_le_mul_left _ (by omega)
    omega

theorem growGo_abs (q : Int) (e : List Int) (hl : e.length ≤ 2 ^ 10) : 2 ^ 40 * absSum (growGo q e) ≤ (2 ^ 40 + 1) * (q.natAbs + absSum e) := by
  have h1 := growGo_abs1 e q
  have h2 := cutSum_le e q _ (Nat.le_refl _)
  generalize absSum (growGo q e) = W at *
  generalize cutSum q e = C at *
  generalize q.natAbs + absSum e = A at *
  have h3 : e.length * (A + 2 * C) ≤ 2 ^ 10 * (A + 2 * C) := Nat.mul_le_mul_right _ hl
  omega

/-- and each number on the way is not much greater -/
theorem step_abs (q x : Int) : 2 ^ 40 * (rn (q + x)).natAbs ≤ (2 ^ 40 + 1) * (q.natAbs + x.natAbs) := by
  have := rest_small (q + x)
  omega

end Tvf

/- Making neat: what comes of it lies one upon the other, is short, and not much greater than its sum. -/
namespace Tvf

/-- from the greatest on: what follows is smaller than a power of two that each divides -/
def dn : List Int → Prop
  | [] => True
  | x :: r => x ≠ 0 ∧ (∃ k : Nat, (2 : Int) ^ k ∣ x ∧ absSum r < 2 ^ k) ∧ dn r

def p1 : Int → List Int → List Int × Int
  | q, [] => ([], q)
  | q, x :: r => if q + x - rn (q + x) = 0 then p1 (rn (q + x)) r else ((p1 (q + x - rn (q + x)) r).1 ++ [rn (q + x)], (p1 (q + x - rn (q + x)) r).2)

theorem p1_sum (d : List Int) : ∀ q, isum (p1 q d).1 + (p1 q d).2 = q + isum d := by
  induction d with
  | nil => intro q; simp [p1, isum]
  | cons x r ih =>
    intro q; unfold p1
    split
    · rw [ih]; simp only [isum]; omega
    · have := ih (q + x - rn (q + x))
      simp only [isum_append, isum] at *; omega

theorem p1_rep (d : List Int) : ∀ q, rep q → (∀ y, y ∈ d → rep y) → rep (p1 q d).2 ∧ ∀ y, y ∈ (p1 q d).1 → rep y := by
  induction d with
  | nil => intro q hq _; exact ⟨hq, fun y hy => by cases hy⟩
  | cons x r ih =>
    intro q hq hd; unfold p1
    have hr : ∀ y, y ∈ r → rep y := fun y hy => hd y (List.mem_cons_of_mem _ hy)
    split
    · exact ih _ (rep_rn _) hr
    · have := ih _ (sum_rest hq (hd x (List.mem_cons_self ..))) hr
      refine ⟨this.1, fun y hy => ?_⟩
      rcases List.mem_append.1 hy with h | h
      · exact this.2 y h
      · simp at h; rw [h]; exact rep_rn _

theorem p1_dvd (k : Nat) (d : List Int) : ∀ q, (2 : Int) ^ k ∣ q → (∀ y, y ∈ d → (2 : Int) ^ k ∣ y) → (2 : Int) ^ k ∣ (p1 q d).2 ∧ ∀ y, y ∈ (p1 q d).1 → (2 : Int) ^ k ∣ y := by
  induction d with
  | nil => intro q hq _; exact ⟨hq, fun y hy => by cases hy⟩
  | cons x r ih =>
    intro q hq hd; unfold p1
    have hr : ∀ y, y ∈ r → (2 : Int) ^ k ∣ y := fun y hy => hd y (List.mem_cons_of_mem _ hy)
    have hs : (2 : Int) ^ k ∣ q + x := Int.dvd_add hq (hd x (List.mem_cons_self ..))
    have hrn := rn_dvd hs
    split
    · exact ih _ hrn hr
    · have := ih _ (Int.dvd_sub hs hrn) hr
      refine ⟨this.1, fun y hy => ?_⟩
      rcases List.mem_append.1 hy with h | h
      · exact this.2 y h
      · simp at h; rw [h]; exact hrn

theorem p1_len (d : List Int) : ∀ q, (p1 q d).1.length ≤ d.length := by
  induction d with
  | nil => intro q; simp [p1]
  | cons x r ih =>
    intro q; unfold p1
    split
    · have := ih (rn (q + x)); simp only [List.length_cons]; omega
    · have := ih (q + x - rn (q + x)); simp only [List.length_append, List.length_cons, List.length_nil]; omega

theorem natAbs_two_pow' (k : Nat) : ((2 : Int) ^ k).natAbs = 2 ^ k := by rw [Int.natAbs_pow]; rfl

theorem nov_snoc (l : List Int) (g s : Int) (p : Nat) (h : nov p (l ++ [g])) (hs : s ≠ 0) (hg : ∃ v : Nat, g.natAbs < 2 ^ v ∧ (2 : Int) ^ v ∣ s) : nov p (l ++ [g] ++ [s]) := by
  induction l generalizing p with
  | nil => exact ⟨h.1, h.2.1, hs, hg, trivial⟩
  | cons x r ih => exact ⟨h.1, h.2.1, ih _ h.2.2⟩

theorem natAbs_ge_of_dvd {k : Nat} {x : Int} (h : (2 : Int) ^ k ∣ x) (h0 : x ≠ 0) : 2 ^ k ≤ x.natAbs := by
  have := Int.natAbs_dvd_natAbs.2 h
  rw [Int.natAbs_pow] at this
  exact Nat.le_of_dvd (by omega) this

theorem rn_ge_pow {z : Int} {k : Nat} (h : 2 ^ k ≤ z.natAbs) : 2 ^ k ≤ (rn z).natAbs := by
  have hr : rep ((2 : Int) ^ k) := by
    have := rep_of (m := 1) k (by decide); rw [Int.one_mul] at this; exact this
  have cast : ((2 ^ k : Nat) : Int) = (2 : Int) ^ k := by simp
  by_cases h0 : 0 ≤ z
  · have m := rn_mono (a := 2 ^ k) (b := z) (by rw [← cast]; omega)
    rw [rn_rep hr, ← cast] at m; omega
  · have m := rn_mono (a := z) (b := -(2 ^ k)) (by rw [← cast]; omega)
    rw [rn_rep (rep_neg hr), ← cast] at m; omega

/-- where something is cut off: all that follows is small beside what stands -/
theorem emit {z T : Int} {j : Nat} (hz : (2 : Int) ^ j ∣ z) (h : z - rn z ≠ 0) (hT : T.natAbs < 2 ^ j) :
    ∃ v : Nat, (2 : Int) ^ v ∣ rn z ∧ 4 * (z - rn z + T).natAbs ≤ 3 * 2 ^ v ∧ 2 ^ 51 * 2 ^ v ≤ (rn z).natAbs := by
  obtain ⟨k, ⟨q, hq⟩, h1, h2, h3⟩ := rn_unit z
  have hne : rn z ≠ z := fun e => h (by omega)
  obtain ⟨h4, hk1⟩ := h2 hne
  have hd : (2 : Int) ^ j ∣ z - rn z := Int.dvd_sub hz (rn_dvd hz)
  have hge := natAbs_ge_of_dvd hd h
  have hk : 2 ^ k = 2 * 2 ^ (k - 1) := by rw [show k = k - 1 + 1 by omega, Nat.pow_succ]; simp; omega
  have hjk : j ≤ k - 1 := by
    have : 2 ^ j ≤ 2 ^ (k - 1) := by clear hq h3; omega
    exact (Nat.pow_le_pow_iff_right (show 1 < 2 by omega)).1 this
  have hrn := rn_ge_pow h4
  by_cases hj : j = k - 1
  · -- a tie: even
    have htie : 2 * (rn z - z).natAbs = 2 ^ k := by rw [hj] at hge; clear hq h3; omega
    obtain ⟨q', hq'⟩ := h3 htie
    refine ⟨k + 1, ⟨q', by rw [hq', Int.mul_comm]⟩, ?_, ?_⟩
    · rw [hj] at hT; rw [Nat.pow_succ]; clear hq h3 hq'; omega
    · rw [show (52 + k) = 51 + (k + 1) by omega, Nat.pow_add] at hrn; exact hrn
  · refine ⟨k, ⟨q, by rw [hq, Int.mul_comm]⟩, ?_, ?_⟩
    · have hj2 : j ≤ k - 1 - 1 := by omega
      have p2 : 2 ^ j ≤ 2 ^ (k - 1 - 1) := Nat.pow_le_pow_right (by omega) hj2
      have p3 : 2 ^ (k - 1) = 2 * 2 ^ (k - 1 - 1) := by rw [show k - 1 = k - 1 - 1 + 1 by omega, Nat.pow_succ]; simp; omega
      clear hq h3; omega
    · rw [Nat.pow_add] at hrn
      clear hq h3; omega

/-- what the first pass leaves -/
theorem p1_top (d : List Int) : ∀ q, (∃ k : Nat, (2 : Int) ^ k ∣ q ∧ absSum d < 2 ^ k) → dn d →
    ((p1 q d).1 = [] ∧ (p1 q d).2 = q + isum d) ∨
    ∃ gs g, (p1 q d).1 = gs ++ [g] ∧ g ≠ 0 ∧ 2 ^ 50 * (q + isum d - g).natAbs ≤ g.natAbs ∧ nov 0 (gs ++ [g]) ∧ 2 ^ 48 * (absSum gs + (p1 q d).2.natAbs) ≤ g.natAbs ∧ 2 ^ (51 * gs.length) ≤ g.natAbs := by
  induction d with
  | nil => intro q _ _; left; simp [p1, isum]
  | cons x r ih =>
    intro q ⟨k, hk1, hk2⟩ ⟨hx0, ⟨j, hj1, hj2⟩, hr⟩
    simp only [absSum] at hk2
    have hjk : j < k := dvd_lt hj1 hx0 (by omega)
    have hz : (2 : Int) ^ j ∣ q + x := Int.dvd_add (dvd_mono (Nat.le_of_lt hjk) hk1) hj1
    unfold p1
    split
    · rename_i h0
      have := ih (rn (q + x)) ⟨j, rn_dvd hz, hj2⟩ hr
      rw [show rn (q + x) + isum r = q + isum (x :: r) by simp only [isum]; omega] at this
      exact this
    · rename_i h0
      right
      have hT : (isum r).natAbs < 2 ^ j := Nat.lt_of_le_of_lt (isum_le r) hj2
      obtain ⟨v, v1, v2, v3⟩ := emit hz h0 hT
      have hs0 : rn (q + x) ≠ 0 := by have := two_pow_pos v; omega
      have hT2 : q + isum (x :: r) - rn (q + x) = q + x - rn (q + x) + isum r := by simp only [isum]; omega
      rcases ih (q + x - rn (q + x)) ⟨j, Int.dvd_sub hz (rn_dvd hz), hj2⟩ hr with ⟨g1, g2⟩ | ⟨gs, g, g1, g2, g3, g4, g5, g6⟩
      · rw [g1, g2]
        generalize q + x - rn (q + x) + isum r = T at *
        generalize rn (q + x) = S at *
        refine ⟨[], S, rfl, hs0, by rw [hT2]; clear hz hj1 hk1 v1; omega, ⟨hs0, ⟨0, by simp, by simp⟩, trivial⟩, ?_, by simp; omega⟩
        simp only [absSum]
        clear hz hj1 hk1 v1; omega
      · rw [g1]
        generalize (p1 (q + x - rn (q + x)) r).2 = F at *
        generalize q + x - rn (q + x) + isum r = T at *
        generalize rn (q + x) = S at *
        have hgv : g.natAbs < 2 ^ v := by clear hz hj1 hk1 v1; omega
        refine ⟨gs ++ [g], S, rfl, hs0, by rw [hT2]; clear hz hj1 hk1 v1; omega, nov_snoc gs g S 0 g4 hs0 ⟨v, hgv, v1⟩, ?_, ?_⟩
        · rw [absSum_append]; simp only [absSum]
          clear hz hj1 hk1 v1; omega
        · rw [List.length_append, show 51 * (gs.length + [g].length) = 51 + 51 * gs.length by simp; omega, Nat.pow_add]
          have h1 : 2 ^ 51 * g.natAbs ≤ 2 ^ 51 * 2 ^ v := Nat.mul_le_mul_left _ (Nat.le_of_lt hgv)
          have h2 := Nat.mul_le_mul_left (2 ^ 51) g6
          omega

/-- an expansion, from its greatest on -/
theorem dn_of_nov {l : List Int} {p : Nat} (h : nov p l) : dn l.reverse := by
  -- sums of what comes before
  have gen : ∀ (l : List Int) (p P : Nat) (done : List Int), nov p l → absSum done ≤ P → (∀ x r, l = x :: r → ∃ k : Nat, P < 2 ^ k ∧ (2 : Int) ^ k ∣ x) → dn done → dn (l.reverse ++ done) := by
    intro l
    induction l with
    | nil => intro p P done _ _ _ hd; exact hd
    | cons x r ih =>
      intro p P done hn hP hk hd
      obtain ⟨k, hk1, hk2⟩ := hk x r rfl
      rw [List.reverse_cons, List.append_assoc]
      refine ih x.natAbs (P + x.natAbs) (x :: done) hn.2.2 (by simp only [absSum]; omega) ?_ ⟨hn.1, ⟨k, hk2, by omega⟩, hd⟩
      intro y r' e
      subst e
      obtain ⟨j, hj1, hj2⟩ := hn.2.2.2.1
      refine ⟨j, ?_, hj2⟩
      -- x is a multiple of 2^k below 2^j, and P is below 2^k
      have hkj := dvd_lt hk2 hn.1 hj1
      obtain ⟨c, hc⟩ := hk2
      have e1 : x.natAbs = 2 ^ k * c.natAbs := by rw [hc, Int.natAbs_mul, natAbs_two_pow']
      have e2 : 2 ^ j = 2 ^ k * 2 ^ (j - k) := by rw [← Nat.pow_add, show k + (j - k) = j by omega]
      rw [e1, e2] at hj1
      have := Nat.lt_of_mul_lt_mul_left hj1
      have h2 : 2 ^ k * (c.natAbs + 1) ≤ 2 ^ k * 2 ^ (j - k) := Nat.mul_le_mul_left _ (by omega)
      rw [Nat.mul_add, Nat.mul_one] at h2
      rw [e1, e2]; omega
  have := gen l p 0 [] (nov_mono (Nat.zero_le p) h |> fun h' => nov_mono (Nat.le_refl _) h) (by simp [absSum]) ?_ trivial
  · rw [List.append_nil] at this; exact this
  · intro x r e
    subst e
    obtain ⟨k, hk1, hk2⟩ := h.2.1
    exact ⟨k, by omega, hk2⟩

/-- the neat form -/
def neatI (l : List Int) : List Int :=
  match l.reverse with
  | [] => []
  | q :: d => growGo (p1 q d).2 (p1 q d).1

/-- ALL OF THE NEAT FORM -/
theorem neat_all {l : List Int} {p : Nat} (h : nov p l) (hrep : ∀ y, y ∈ l → rep y) (hlen : l.length ≤ 2 ^ 10) :
    isum (neatI l) = isum l ∧ nov 0 (neatI l) ∧ (∀ y, y ∈ neatI l → y ≠ 0) ∧ (∀ y, y ∈ neatI l → rep y) ∧
    absSum (neatI l) ≤ 8 * (isum l).natAbs ∧ (∀ M, (isum l).natAbs < 2 ^ (M + 50) → (neatI l).length * 51 ≤ M + 204) ∧
    (∀ k : Nat, (∀ y, y ∈ l → (2 : Int) ^ k ∣ y) → ∀ y, y ∈ neatI l → (2 : Int) ^ k ∣ y) := by
  have hdn := dn_of_nov h
  have hsum := isum_reverse l
  have hmem : ∀ y, y ∈ l.reverse ↔ y ∈ l := fun y => List.mem_reverse
  have hl2 : l.reverse.length = l.length := List.length_reverse
  unfold neatI
  generalize l.reverse = d at *
  cases d with
  | nil =>
    simp only at *
    rw [← hsum]
    have hno : ∀ (P : Int → Prop) (y : Int), y ∈ ([] : List Int) → P y := fun P y hy => by cases hy
    exact ⟨rfl, trivial, hno _, hno _, by simp [absSum], fun M _ => by simp, fun k _ => hno _⟩
  | cons q d =>
    simp only at *
    have hq : rep q := hrep q ((hmem q).1 (List.mem_cons_self ..))
    have hd : ∀ y, y ∈ d → rep y := fun y hy => hrep y ((hmem y).1 (List.mem_cons_of_mem _ hy))
    have hrp := p1_rep d q hq hd
    have hs := p1_sum d q
    have hpl := p1_len d q
    have htop := p1_top d q hdn.2.1 hdn.2.2
    have hgs := growGo_sum (p1 q d).1 (p1 q d).2
    have hga := growGo_abs (p1 q d).2 (p1 q d).1 (by simp at hl2; omega)
    have hgl := growGo_len (p1 q d).1 (p1 q d).2
    have hisum : isum l = q + isum d := by rw [← hsum]; rfl
    have hnov : nov 0 (p1 q d).1 := by
      rcases htop with ⟨g1, _⟩ | ⟨gs, g, g1, _, _, g4, _⟩
      · rw [g1]; trivial
      · rw [g1]; exact g4
    refine ⟨by rw [hgs, hisum]; omega, growGo_nov _ 0 0 _ hrp.1 ⟨0, by simp, by simp, fun y _ => by simp⟩ hnov, growGo_nz _ _, growGo_rep _ _ hrp.1 hrp.2, ?_, ?_, ?_⟩
    · rw [hisum]
      generalize absSum (growGo (p1 q d).2 (p1 q d).1) = W at *
      rcases htop with ⟨g1, g2⟩ | ⟨gs, g, g1, g2, g3, g4, g5, g6⟩
      · rw [g1, g2] at hga; simp only [absSum] at hga; omega
      · rw [g1, absSum_append] at hga; simp only [absSum] at hga; omega
    · intro M hM
      rw [hisum] at hM
      rcases htop with ⟨g1, g2⟩ | ⟨gs, g, g1, g2, g3, g4, g5, g6⟩
      · rw [g1] at hgl ⊢; simp at hgl ⊢; omega
      · have h1 : 2 ^ (51 * gs.length) < 2 ^ (M + 51) := by
          have : 2 ^ (M + 51) = 2 * 2 ^ (M + 50) := by rw [show M + 51 = M + 50 + 1 by omega, Nat.pow_succ]; omega
          omega
        have h2 := (Nat.pow_lt_pow_iff_right (show 1 < 2 by omega)).1 h1
        rw [g1] at hgl ⊢
        simp only [List.length_append, List.length_cons, List.length_nil] at hgl
        omega
    · intro k hk
      have hqk : (2 : Int) ^ k ∣ q := hk q ((hmem q).1 (List.mem_cons_self ..))
      have hdk : ∀ y, y ∈ d → (2 : Int) ^ k ∣ y := fun y hy => hk y ((hmem y).1 (List.mem_cons_of_mem _ hy))
      have := p1_dvd k d q hqk hdk
      exact growGo_dvd k _ _ this.1 this.2

end Tvf

/- expand.grow: on words, and its walk. -/
namespace Go.Proofs.YtdoaniccefdkaaaGreatDoor
open Go.RowKit Tvf

theorem natAbs_le_of_near {a b : Int} {n : Nat} (h : (a - b).natAbs ≤ n) : a.natAbs ≤ b.natAbs + n := by omega

/-- what is not nought -/
def keepF (q : Nat) : List Nat := if fne q 0 then [q] else []
def gq : Nat → List Nat → Nat
  | q, [] => q
  | q, x :: r => gq (sumHi q x) r
def gout : Nat → List Nat → List Nat
  | _, [] => []
  | q, x :: r => keepF (sumLo q x) ++ gout (sumHi q x) r
def growW (b : Nat) (l : List Nat) : List Nat := gout b l ++ keepF (gq b l)

/-- every number on the way is neither infinite nor very great -/
def runOK : Nat → List Nat → Prop
  | q, [] => tame q
  | q, x :: r => tame q ∧ tame x ∧ runOK (sumHi q x) r

theorem gq_snoc (l : List Nat) (x : Nat) : ∀ q, gq q (l ++ [x]) = sumHi (gq q l) x := by
  induction l with
  | nil => intro q; rfl
  | cons y r ih => intro q; exact ih _
theorem gout_snoc (l : List Nat) (x : Nat) : ∀ q, gout q (l ++ [x]) = gout q l ++ keepF (sumLo (gq q l) x) := by
  induction l with
  | nil => intro q; simp [gout, gq]
  | cons y r ih => intro q; simp only [List.cons_append, gout, gq, ih, List.append_assoc]

theorem take_snoc' (l : List Nat) (k : Nat) (h : k < l.length) : l.take (k + 1) = l.take k ++ [l.getD k 0] := by
  rw [List.take_succ_eq_append_getElem h, List.getD_eq_getElem?_getD, List.getElem?_eq_getElem h]; rfl

theorem runOK_first {q : Nat} {l : List Nat} (h : runOK q l) : tame q := by cases l with | nil => exact h | cons x r => exact h.1

theorem runOK_at {l : List Nat} : ∀ {q : Nat}, runOK q l → ∀ k, k ≤ l.length → tame (gq q (l.take k)) ∧ (k < l.length → tame (l.getD k 0)) := by
  induction l with
  | nil => intro q h k hk; simp at hk; subst hk; exact ⟨h, fun h => by simp at h⟩
  | cons x r ih =>
    intro q h k hk
    cases k with
    | zero => exact ⟨h.1, fun _ => h.2.1⟩
    | succ k =>
      have := ih h.2.2 k (by simp at hk; omega)
      exact ⟨this.1, fun hh => this.2 (by simp at hh; omega)⟩

theorem gout_len (l : List Nat) : ∀ q, (gout q l).length ≤ l.length := by
  induction l with
  | nil => intro q; simp [gout]
  | cons x r ih =>
    intro q; unfold gout
    have := ih (sumHi q x)
    rw [List.length_append, List.length_cons]
    unfold keepF
    split <;> simp <;> omega

theorem fne_zero {x : Nat} (hx : fin x) : fne x 0 = decide (fval x ≠ 0) := by
  rw [fne_val hx (by unfold fin; omega)]; rfl

theorem keepF_vals {q : Nat} (hq : fin q) : (keepF q).map fval = (if fval q = 0 then [] else [fval q]) ∧ ∀ x, x ∈ keepF q → fin x := by
  unfold keepF
  rw [fne_zero hq]
  by_cases h : fval q = 0
  · simp [h]
  · simp [h, hq]

theorem growW_vals {l : List Nat} : ∀ {q : Nat}, runOK q l → (growW q l).map fval = growGo (fval q) (l.map fval) ∧ ∀ x, x ∈ growW q l → fin x := by
  induction l with
  | nil =>
    intro q h
    have := keepF_vals h.1
    exact ⟨this.1, this.2⟩
  | cons x r ih =>
    intro q h
    obtain ⟨_, _, _, _, _, s6, s7, s8⟩ := sum_fin h.1 h.2.1
    have := ih h.2.2
    unfold growW at this ⊢
    have hk := keepF_vals s6
    simp only [gout, gq, List.map_cons, growGo]
    rw [← s8, ← s7]
    by_cases h0 : fval (sumLo q x) = 0
    · rw [if_pos h0] at hk ⊢
      have hk1 : keepF (sumLo q x) = [] := by simpa using hk.1
      rw [hk1, List.nil_append]; exact this
    · rw [if_neg h0] at hk ⊢
      refine ⟨by rw [List.append_assoc, List.map_append, hk.1, this.1]; rfl, ?_⟩
      intro y hy
      rw [List.append_assoc] at hy
      rcases List.mem_append.1 hy with e | e
      · exact hk.2 y e
      · exact this.2 y e

theorem runOK_of (K : Nat) (hK : K + 11 ≤ unitE + 1000) (l : List Nat) : ∀ q, fin q → (∀ x, x ∈ l → fin x) → l.length ≤ 1024 → (fval q).natAbs + absSum (l.map fval) ≤ 2 ^ K * (2048 - l.length) → runOK q l := by
  have hbig : 2 ^ K * 2048 ≤ 2 ^ (unitE + 1000) := by
    have : 2 ^ K * 2 ^ 11 ≤ 2 ^ (unitE + 1000) := by rw [← Nat.pow_add]; exact Nat.pow_le_pow_right (by omega) hK
    exact this
  induction l with
  | nil =>
    intro q hq _ _ hb
    refine ⟨hq, ?_⟩
    simp only [List.map_nil, absSum, List.length_nil] at hb
    generalize 2 ^ K = P at *
    generalize 2 ^ (unitE + 1000) = T at *
    omega
  | cons x r ih =>
    intro q hq hl hlen hb
    have hx := hl x (List.mem_cons_self ..)
    simp only [List.map_cons, absSum, List.length_cons] at hb hlen
    have hle : 2 ^ K * (2048 - (r.length + 1)) ≤ 2 ^ K * 2048 := Nat.mul_le_mul_left _ (by omega)
    have tq : tame q := ⟨hq, by generalize 2 ^ (unitE + 1000) = T at *; omega⟩
    have tx : tame x := ⟨hx, by generalize 2 ^ (unitE + 1000) = T at *; omega⟩
    obtain ⟨s1, _, _, _, _, s6, s7, s8⟩ := sum_fin tq tx
    refine ⟨tq, tx, ih _ s1 (fun y hy => hl y (List.mem_cons_of_mem _ hy)) (by omega) ?_⟩
    rw [s7]
    have hr := rest_small (fval q + fval x)
    have e : 2 ^ K * (2048 - r.length) = 2 ^ K * (2048 - (r.length + 1)) + 2 ^ K := by
      rw [show 2048 - r.length = 2048 - (r.length + 1) + 1 by omega, Nat.mul_add, Nat.mul_one]
    rw [e]
    generalize 2 ^ K * (2048 - (r.length + 1)) = C at *
    generalize 2 ^ K = P at *
    generalize fval q = Q at *
    generalize fval x = X at *
    generalize absSum (r.map fval) = S at *
    clear ih hl s1 s6 s7 s8 tq tx hbig
    omega

/-! ### rows of floats of the call's own -/

theorem infoF : (Tryz.prog.info? 50).map (fun i => (i.zero, i.size, i.bytes)) = some (some (.float .f64 0), 1, 8) := by kernel_rfl

def OwnF (w : World) (base : Nat) (v : Value) (l : List Nat) : Prop := w.ownsRow base 50 1 v l.length (l.map (Value.float .f64))

theorem ownsRow_below {w w' : World} {base : Nat} {e : TypeId} {size : Nat} {v : Value} {n : Nat} {xs : List Value} (h : w.ownsRow base e size v n xs) (hb : Below w.heap.size w w') : w'.ownsRow base e size v n xs := by
  have hlt := h.lt
  obtain ⟨h1, h2 | ⟨g, cap, cur, e1, e2, e3, e4, e5, e6, e7⟩⟩ := h
  · exact ⟨h1, Or.inl h2⟩
  · refine ⟨h1, Or.inr ⟨g, cap, cur, e1, e2, ?_, e4, e5, e6, e7⟩⟩
    have := hlt g (by rw [e1]; rfl)
    rw [hb.block g this.2]; exact e3

theorem FSl_of_own {w : World} {base : Nat} {v : Value} {l : List Nat} (h : OwnF w base v l) (hl : l.length ≤ 4294967296) (h64 : ∀ x, x ∈ l → x < 2 ^ 64) : FSl w v l := by
  refine ⟨hl, h64, ?_⟩
  have hlt := World.ownsRow.lt h
  have hcells := fun {g : Nat} (hg : v.ownBlock = some g) => World.ownsRow.cells h hg
  obtain ⟨h1, ⟨h2, h3⟩ | ⟨g, cap, cur, e1, e2, e3, e4, e5, e6, e7⟩⟩ := h
  · left; exact ⟨h2, List.length_eq_zero_iff.1 h3⟩
  · right
    refine ⟨g, 0, cap, e1, (hlt g (by rw [e1]; rfl)).2, ?_⟩
    intro i hi
    have := hcells (g := g) (by rw [e1]; rfl) i (.float .f64 (l.getD i 0)) (by
      rw [List.getElem?_map, List.getElem?_eq_getElem hi, List.getD_eq_getElem?_getD, List.getElem?_eq_getElem hi]; rfl)
    rw [Nat.zero_add]
    by_cases h0 : i = 0
    · subst h0; simpa [Addr.add] using this
    · simpa [Addr.add, h0] using this

theorem float_oneCell (x : Nat) : ∀ u ∈ [Value.float .f64 x], u.oneCell' = true := by intro u hu; simp at hu; subst hu; rfl

set_option maxRecDepth 100000 in
set_option maxHeartbeats 1600000 in
theorem grow_walk (l : List Nat) (v : Value) (b : Nat) (hr : runOK b l) (hlen : l.length ≤ 1024) (w : World) (hv : FSl w v l) :
    Calls Tryz.prog 301 #[v, .float .f64 b] w fun e w' => ∃ v', e = .returned v' ∧ OwnF w' w.heap.size v' (growW b l) ∧ Below w.heap.size w w' := by
  obtain ⟨ad, cap, rfl, hcell⟩ := hv.form
  obtain ⟨i0, hi, hz0, hz1, hz2⟩ := info_parts infoF
  clear hv
  have HR : Hid (runOK b l) := hr
  have HC := Lib.hid hcell
  clear hr hcell
  go_enter Tryz.func301, Tryz.ntmps301
  go_wp2_with (at_make; refine wpList_make_own _ rfl _ _ 227 rfl w.heap.size 50 i0 (.float .f64 0) 1 Tryz.underlying227 hi hz0 hz1 _ _ _ (l.length + 1) rfl rfl ?c1 ?c2 ?c3 (Nat.le_refl _) ?_)
  case c1 => omega
  case c2 => rw [hz2]; omega
  case c3 => unfold maxLen; omega
  intro w0 hown0 hgrow0
  go_wp2
  have hb0 : Below w.heap.size w w0 := (Below.refl _ _).grown hgrow0 (Nat.le_refl _) (fun k hk => by cases hk)
  clear hgrow0
  go_loopw [5, 6, 17] (fun out q i wr => ∃ k : Nat, k ≤ l.length ∧ i = .int .i64 k ∧ q = .float .f64 (gq b (l.take k)) ∧ OwnF wr w.heap.size out (gout b (l.take k)) ∧ Below w.heap.size w wr) (fun _ _ i _ => l.length - (intOf i).toNat)
  case atStart => exact ⟨0, Nat.zero_le _, rfl, rfl, hown0, hb0⟩
  case round =>
    clear hown0 hb0
    obtain ⟨k, hk, rfl, rfl, hown, hbw⟩ := hrel
    by_cases hlt : k < l.length
    · obtain ⟨bb, off, rfl, hbb, hc⟩ := HC.out (by omega)
      have hck := hc k hlt
      have hck : wr.cell? ⟨bb, off + k, none⟩ = some (.float .f64 (l.getD k 0)) := (hbw.cell (p := ⟨bb, off + k, none⟩) hbb).trans hck
      have hR := runOK_at HR (k + 1) (by omega)
      have hRk := runOK_at HR k (by omega)
      have hgq := gq_snoc (l.take k) (l.getD k 0) b
      have hgo := gout_snoc (l.take k) (l.getD k 0) b
      rw [← take_snoc' l k hlt] at hgq hgo
      have HS := Lib.hid (sum_walk (gq b (l.take k)) (l.getD k 0) hRk.1 (hRk.2 hlt))
      have hll := gout_len (l.take k) b
      have hll2 : (l.take k).length = k := by rw [List.length_take]; omega
      have HQ := Lib.hid hgq
      have HO := Lib.hid hgo
      have HL : Hid ((gout b (l.take k)).length ≤ k) := by unfold Hid; omega
      clear hc hR hRk hgq hgo hll hll2
      generalize l.getD k 0 = x at *
      generalize gq b (l.take k) = q at *
      generalize gout b (l.take k) = o at *
      cases hne : fne (sumLo q x) 0
      · have hkp : Hid (keepF (sumLo q x) = []) := by unfold Hid keepF; rw [hne]; rfl
        go_wp2_with (go_at_call 253; refine (HS.out _).mono ?_; rintro e w1 ⟨rfl, hb1⟩)
        go_roundw
        case rel => exact ⟨k + 1, by omega, by go_num, by rw [HQ.out], by rw [HO.out, hkp.out, List.append_nil]; exact ownsRow_below hown hb1, hbw.trans (hb1.mono hbw.size)⟩
        case measure => simp [intOf]; omega
      · have hkp : Hid (keepF (sumLo q x) = [sumLo q x]) := by unfold Hid keepF; rw [hne]; rfl
        go_wp2_with (first
          | (go_at_call 253; refine (HS.out _).mono ?_; rintro e w1 ⟨rfl, hb1⟩; have hown1 := ownsRow_below hown hb1; clear hown)
          | (at_builtin; refine wpList_append_own _ rfl _ _ 227 rfl w.heap.size 50 i0 (.float .f64 0) 1 8 Tryz.underlying227 hi hz0 hz1 hz2 rfl (by decide) _ _ _ rfl (hown1.alloc _) ⟨w1.heap.size, 0, none⟩ 1 1 [.float .f64 (sumLo q x)] rfl rfl ?c1 ?c2 ?c3 ?c4 ?c5 ?_))
        case c1 =>
          intro j u hj
          match j, hj with
          | 0, hj => simp at hj; subst hj; simp [Addr.add]
        case c2 => exact float_oneCell _
        case c3 => have := HL.out; unfold maxLen; omega
        case c4 => have := HL.out; omega
        case c5 => have := hbw.size; have := hb1.size; simp; omega
        intro v' w2 hown2 hgrow2 _
        have hlt1 := World.ownsRow.lt hown1
        have hbw2 : Below w.heap.size w w2 := ((hbw.trans (hb1.mono hbw.size)).alloc (by have := hbw.size; have := hb1.size; omega) _).grown hgrow2 (by have := hbw.size; have := hb1.size; simp; omega) (fun kk hkk => (hlt1 kk hkk).1)
        have hown3 : OwnF w2 w.heap.size v' (o ++ [sumLo q x]) := by unfold OwnF; rw [List.length_append, List.map_append]; exact hown2
        clear hown2 hgrow2 hown1 hlt1 hb1 hck
        go_wp2
        go_roundw
        case rel => exact ⟨k + 1, by omega, by go_num, by rw [HQ.out], by rw [HO.out, hkp.out]; exact hown3, hbw2⟩
        case measure => simp [intOf]; omega
    · have hkl : k = l.length := by omega
      have htk : l.take k = l := List.take_of_length_le (by omega)
      rw [htk] at hown
      rw [htk]
      have hgl := gout_len l b
      have HL : Hid ((gout b l).length ≤ l.length) := hgl
      have HD : Hid (growW b l = gout b l ++ keepF (gq b l)) := rfl
      clear hkl htk hgl
      generalize gq b l = q at *
      generalize gout b l = o at *
      cases hne : fne q 0
      · have hkp : Hid (keepF q = []) := by unfold Hid keepF; rw [hne]; rfl
        go_wp2
        go_ret
        exact ⟨_, rfl, by rw [HD.out, hkp.out, List.append_nil]; exact hown, hbw⟩
      · have hkp : Hid (keepF q = [q]) := by unfold Hid keepF; rw [hne]; rfl
        go_wp2_with (at_builtin; refine wpList_append_own _ rfl _ _ 227 rfl w.heap.size 50 i0 (.float .f64 0) 1 8 Tryz.underlying227 hi hz0 hz1 hz2 rfl (by decide) _ _ _ rfl (hown.alloc _) ⟨wr.heap.size, 0, none⟩ 1 1 [.float .f64 q] rfl rfl ?c1 ?c2 ?c3 ?c4 ?c5 ?_)
        case c1 =>
          intro j u hj
          match j, hj with
          | 0, hj => simp at hj; subst hj; simp [Addr.add]
        case c2 => exact float_oneCell _
        case c3 => have := HL.out; unfold maxLen; omega
        case c4 => have := HL.out; omega
        case c5 => have := hbw.size; simp; omega
        intro v' w2 hown2 hgrow2 _
        have hlt1 := World.ownsRow.lt hown
        have hbw2 : Below w.heap.size w w2 := (hbw.alloc hbw.size _).grown hgrow2 (by have := hbw.size; simp; omega) (fun kk hkk => (hlt1 kk hkk).1)
        have hown3 : OwnF w2 w.heap.size v' (o ++ [q]) := by unfold OwnF; rw [List.length_append, List.map_append]; exact hown2
        clear hown2 hgrow2 hlt1
        go_wp2
        go_ret
        exact ⟨_, rfl, by rw [HD.out, hkp.out]; exact hown3, hbw2⟩

end Go.Proofs.YtdoaniccefdkaaaGreatDoor
