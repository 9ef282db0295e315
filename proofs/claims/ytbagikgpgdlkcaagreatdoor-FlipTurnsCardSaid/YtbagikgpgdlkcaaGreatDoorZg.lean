/- Part of the proof. No conditions. -/
import Derived.Test.YtbagikgpgdlkcaaGreatDoorZP
set_option linter.all false
set_option maxHeartbeats 8000000
set_option maxRecDepth 100000
namespace Go.Proofs.YtbagikgpgdlkcaaGreatDoor
open Go.RowKit Tvf
def nr (e : Nat) (x y : Int) : Prop := (x - y).natAbs * 2 ^ 159 ≤ e * y.natAbs
def nrE1 : Nat := 2 ^ 106 + 2 ^ 53 + 2
def nrCo (e f : Nat) : Nat := e + f + (e * f / 2 ^ 159 + 1)
theorem nr_rn (z : Int) : nr nrE1 z (rn z) := by
 have h := rest_small z
 unfold nr
 generalize rn z = r at *
 have h1 : z.natAbs ≤ r.natAbs + (z - r).natAbs := by omega
 have h2 : (2 ^ 53 - 1) * (z - r).natAbs ≤ r.natAbs := by omega
 have h3 := Nat.mul_le_mul_left nrE1 h2
 have h4 : 2 ^ 159 ≤ nrE1 * (2 ^ 53 - 1) := by decide
 have h5 := Nat.mul_le_mul_right (z - r).natAbs h4
 rw [Nat.mul_assoc] at h5
 rw [Nat.mul_comm]
 exact Nat.le_trans h5 h3
theorem add_le3 {r1 r2 r3 r4 r5 r6 r7 r8 : Nat} (h7 : r6 ≤ r7 + r8) (h1 : r7 ≤ r4) (h2 : r8 ≤ r3) (h3 : r4 ≤ r2 + r5) (h6 : r5 ≤ r1) : r6 ≤ r2 + r3 + r1 := by omega
theorem nr_trans {e f : Nat} {x y z : Int} (h1 : nr e x y) (h2 : nr f y z) : nr (nrCo e f) x z := by
 unfold nr nrCo at *
 have t1 : (x - z).natAbs ≤ (x - y).natAbs + (y - z).natAbs := by omega
 have t2 : y.natAbs ≤ z.natAbs + (y - z).natAbs := by omega
 generalize (x - z).natAbs = a at *
 generalize (x - y).natAbs = b at *
 generalize (y - z).natAbs = c at *
 generalize y.natAbs = Y at *
 generalize z.natAbs = Z at *
 have h3 : e * Y ≤ e * Z + e * c := by rw [← Nat.mul_add]; exact Nat.mul_le_mul_left _ t2
 have h4 : e * c * 2 ^ 159 ≤ e * f * Z := by
  rw [Nat.mul_assoc,Nat.mul_assoc]; exact Nat.mul_le_mul_left _ h2
 have h5 : e * f ≤ (e * f / 2 ^ 159 + 1) * 2 ^ 159 := by
  have := Nat.div_add_mod (e * f) (2 ^ 159)
  have := Nat.mod_lt (e * f) (show 0 < 2 ^ 159 by decide)
  omega
 have h6 : e * c ≤ (e * f / 2 ^ 159 + 1) * Z := by
  refine Nat.le_of_mul_le_mul_right ?_ (show 0 < 2 ^ 159 by decide)
  exact Nat.le_trans h4 (Nat.le_trans (Nat.mul_le_mul_right Z h5) (Nat.le_of_eq (Nat.mul_right_comm _ _ _)))
 have h7 : a * 2 ^ 159 ≤ b * 2 ^ 159 + c * 2 ^ 159 := by rw [← Nat.add_mul]; exact Nat.mul_le_mul_right _ t1
 clear h4 h5 t1 t2
 rw [Nat.add_mul,Nat.add_mul]
 exact add_le3 h7 h1 h2 h3 h6
theorem nr_right {e : Nat} {x y : Int} (h : nr e x y) (k : Int) : nr e (x * k) (y * k) := by
 unfold nr at *
 rw [← Int.sub_mul,Int.natAbs_mul,Int.natAbs_mul,Nat.mul_right_comm,← Nat.mul_assoc]
 exact Nat.mul_le_mul_right _ h
theorem nr_left {e : Nat} {x y : Int} (h : nr e x y) (k : Int) : nr e (k * x) (k * y) := by
 rw [Int.mul_comm k x,Int.mul_comm k y]; exact nr_right h k
theorem nr_mul {e f : Nat} {x y u v : Int} (h1 : nr e x y) (h2 : nr f u v) : nr (nrCo e f) (x * u) (y * v) :=
 nr_trans (nr_right h1 u) (nr_left h2 y)
theorem nr_add {e : Nat} {x y u v : Int} (h1 : nr e x y) (h2 : nr e u v) (hy : 0 ≤ y) (hv : 0 ≤ v) : nr e (x + u) (y + v) := by
 unfold nr at *
 have t : (x + u - (y + v)).natAbs ≤ (x - y).natAbs + (u - v).natAbs := by omega
 have s : (y + v).natAbs = y.natAbs + v.natAbs := by omega
 rw [s,Nat.mul_add]
 have := Nat.mul_le_mul_right (2 ^ 159) t
 rw [Nat.add_mul] at this
 exact Nat.le_trans this (Nat.add_le_add h1 h2)
def nrE2 : Nat := nrCo nrE1 nrE1
def nrE3 : Nat := nrCo nrE2 nrE1
def nrE4 : Nat := nrCo nrE3 nrE1
def nrE7 : Nat := nrCo nrE4 nrE3
theorem mul_self_nonneg' (z : Int) : 0 ≤ z * z := by
 rcases Int.le_total 0 z with h | h
 ·exact Int.mul_nonneg h h
 ·exact Int.mul_nonneg_of_nonpos_of_nonpos h h
theorem nr_prod (x y : Int) : nr nrE3 (x * y) (rn (rn x * rn y)) := nr_trans (nr_mul (nr_rn x) (nr_rn y)) (nr_rn _)
theorem nr_sq (x y : Int) : nr nrE4 (x * x + y * y) (rn (rn (rn x * rn x) + rn (rn y * rn y))) :=
 nr_trans (nr_add (nr_prod x x) (nr_prod y y) (rn_nonneg (mul_self_nonneg' _)) (rn_nonneg (mul_self_nonneg' _))) (nr_rn _)
structure Term (t A M R T V : Int) (Q : Nat) : Prop where
 t1 : (t - A * (M - R)).natAbs * (2 ^ 53 * 2 ^ 53 * 2 ^ 53) ≤ nrE7 * Q
 t2 : (A * (M - R) - T).natAbs * (2 ^ 53 * 2 ^ 53) ≤ (2 * 2 ^ 53 + 1) * Q
 t3 : T.natAbs * (2 ^ 53 * 2 ^ 53) ≤ (2 ^ 53 * 2 ^ 53 + 2 * 2 ^ 53 + 1) * Q
 t4 : (2 ^ 53 - 1) * (2 ^ 53 - 1) * Q ≤ 2 ^ 53 * 2 ^ 53 * V.natAbs
 v0 : 0 ≤ V
theorem lin_a (N a b Q x : Nat) (h1 : N * a ≤ Q) (h2 : N * b ≤ x) (h3 : x ≤ Q + a) : N * (N * b) ≤ N * Q + Q := by
 have h4 := Nat.mul_le_mul_left N h2
 have h5 := Nat.mul_le_mul_left N h3
 rw [Nat.mul_add] at h5
 omega
theorem term_of {Al p q A M R : Int} (hA : 0 ≤ A) (h1 : nr nrE7 (Al * p) (A * M)) (h2 : nr nrE7 (Al * q) (A * R)) :
  Term (Al * (p - q)) A M R (rn (A * rn (M - R))) (rn (rn ((M.natAbs : Int) + R.natAbs) * A)) (A.natAbs * (M.natAbs + R.natAbs)) := by
 have s1 := rest_small (M - R)
 have s2 := rest_small (A * rn (M - R))
 have s3 := rest_small ((M.natAbs : Int) + R.natAbs)
 have s4 := rest_small (rn ((M.natAbs : Int) + R.natAbs) * A)
 have g0 : 0 ≤ rn ((M.natAbs : Int) + R.natAbs) := rn_nonneg (by omega)
 have g1 : 0 ≤ rn (rn ((M.natAbs : Int) + R.natAbs) * A) := rn_nonneg (Int.mul_nonneg g0 hA)
 generalize rn (rn ((M.natAbs : Int) + R.natAbs) * A) = V at *
 generalize rn ((M.natAbs : Int) + R.natAbs) = n at *
 generalize rn (A * rn (M - R)) = T at *
 generalize rn (M - R) = S at *
 unfold nr at h1 h2
 rw [show (2 : Nat) ^ 159 = 2 ^ 53 * 2 ^ 53 * 2 ^ 53 by decide] at h1 h2
 have e1 : Al * (p - q) - A * (M - R) = (Al * p - A * M) - (Al * q - A * R) := by
  rw [Int.mul_sub,Int.mul_sub]; omega
 have hq : A.natAbs * (M.natAbs + R.natAbs) = (A * M).natAbs + (A * R).natAbs := by rw [Nat.mul_add,Int.natAbs_mul,Int.natAbs_mul]
 have hMR : (M - R).natAbs ≤ M.natAbs + R.natAbs := by omega
 have a1 : 2 ^ 53 * (A * (M - R) - A * S).natAbs ≤ A.natAbs * (M.natAbs + R.natAbs) := by
  rw [← Int.mul_sub,Int.natAbs_mul,Nat.mul_left_comm]
  exact Nat.mul_le_mul_left _ (Nat.le_trans s1 hMR)
 have a2 : (A * S).natAbs ≤ A.natAbs * (M.natAbs + R.natAbs) + (A * (M - R) - A * S).natAbs := by
  have hx : (A * (M - R)).natAbs ≤ A.natAbs * (M.natAbs + R.natAbs) := by rw [Int.natAbs_mul]; exact Nat.mul_le_mul_left _ hMR
  generalize A.natAbs * (M.natAbs + R.natAbs) = k at *
  omega
 have a3 := lin_a (2 ^ 53) _ _ _ _ a1 s2 a2
 have a5 : (A * (M - R)).natAbs ≤ A.natAbs * (M.natAbs + R.natAbs) := by rw [Int.natAbs_mul]; exact Nat.mul_le_mul_left _ hMR
 obtain ⟨A', rfl⟩ := Int.eq_ofNat_of_zero_le hA
 obtain ⟨n', rfl⟩ := Int.eq_ofNat_of_zero_le g0
 obtain ⟨V', rfl⟩ := Int.eq_ofNat_of_zero_le g1
 have b1 : (2 ^ 53 - 1) * (M.natAbs + R.natAbs) ≤ 2 ^ 53 * n' := by
  clear h1 h2 a1 a2 a3 s1 s2 s4 hMR a5 e1 hq
  omega
 have b2 : (2 ^ 53 - 1) * (n' * A') ≤ 2 ^ 53 * V' := by
  rw [← Int.natCast_mul] at s4
  generalize n' * A' = k at *
  clear h1 h2 a1 a2 a3 s1 s2 s3 hMR b1 a5 e1 hq
  omega
 have eA : (A' : Int).natAbs = A' := Int.natAbs_natCast _
 rw [eA] at hq a1 a2 a3 a5 ⊢
 refine ⟨?_,?_,?_,?_,g1⟩
 ·rw [e1,hq,Nat.mul_add]
  have t : ((Al * p - A' * M) - (Al * q - A' * R)).natAbs ≤ (Al * p - A' * M).natAbs + (Al * q - A' * R).natAbs := by
   generalize Al * p - A' * M = k1 at *
   generalize Al * q - A' * R = k2 at *
   omega
  have := Nat.mul_le_mul_right (2 ^ 53 * 2 ^ 53 * 2 ^ 53) t
  rw [Nat.add_mul] at this
  exact Nat.le_trans this (Nat.add_le_add h1 h2)
 ·have t : ((A' : Int) * (M - R) - T).natAbs ≤ (A' * (M - R) - A' * S).natAbs + (A' * S - T).natAbs := by
   generalize (A' : Int) * (M - R) = k1 at *
   generalize (A' : Int) * S = k2 at *
   omega
  generalize A' * (M.natAbs + R.natAbs) = Q at *
  generalize ((A' : Int) * (M - R) - T).natAbs = x at *
  generalize ((A' : Int) * (M - R) - A' * S).natAbs = y at *
  generalize ((A' : Int) * S - T).natAbs = z at *
  clear h1 h2 b1 b2 s1 s2 s3 s4 hMR e1 hq a2 a5
  omega
 ·have t : T.natAbs ≤ (A' * (M - R)).natAbs + (A' * (M - R) - A' * S).natAbs + (A' * S - T).natAbs := by
   generalize (A' : Int) * (M - R) = k1 at *
   generalize (A' : Int) * S = k2 at *
   omega
  generalize A' * (M.natAbs + R.natAbs) = Q at *
  generalize T.natAbs = x at *
  generalize ((A' : Int) * (M - R)).natAbs = x1 at *
  generalize ((A' : Int) * (M - R) - A' * S).natAbs = y at *
  generalize ((A' : Int) * S - T).natAbs = z at *
  clear h1 h2 b1 b2 s1 s2 s3 s4 hMR e1 hq a2
  omega
 ·rw [Int.natAbs_natCast]
  have c1 := Nat.mul_le_mul_left A' b1
  have c2 := Nat.mul_le_mul_left (2 ^ 53 - 1) c1
  have c3 := Nat.mul_le_mul_left (2 ^ 53) b2
  have r1 : (2 ^ 53 - 1) * (A' * ((2 ^ 53 - 1) * (M.natAbs + R.natAbs))) = (2 ^ 53 - 1) * (2 ^ 53 - 1) * (A' * (M.natAbs + R.natAbs)) := by
   rw [Nat.mul_left_comm A', ← Nat.mul_assoc]
  have r2 : (2 ^ 53 - 1) * (A' * (2 ^ 53 * n')) = 2 ^ 53 * ((2 ^ 53 - 1) * (n' * A')) := by
   rw [Nat.mul_left_comm A', Nat.mul_comm A' n', Nat.mul_left_comm]
  rw [r1,r2] at c2
  rw [Nat.mul_assoc (2 ^ 53) (2 ^ 53) V']
  exact Nat.le_trans c2 c3
theorem lin_b (x1 x2 x3 q1 q2 q3 E D : Nat) (h1 : x1 * D ≤ E * q1) (h2 : x2 * D ≤ E * q2) (h3 : x3 * D ≤ E * q3) : (x1 + x2 + x3) * D ≤ E * (q1 + q2 + q3) := by
 rw [Nat.add_mul,Nat.add_mul,Nat.mul_add,Nat.mul_add]; omega
theorem fin_num : (nrE7 + (3 * (2 ^ 53 * 2 ^ 53) + 3 * 2 ^ 53 + 1)) * (2 ^ 53) ^ 4 ≤ (2 ^ 53 - 1) * ((2 ^ 53 - 1) * ((2 ^ 53 - 1) * ((2 ^ 53 - 1) * (2 ^ 53 - 1)))) * (10 * 2 ^ 53 + 96) := by decide
theorem chain_e1 (N k c Q X Z MO : Nat) (d5 : k * (k * (k * k * Q)) ≤ N * N * (N * (N * X))) (c3 : k * Z ≤ N * MO) (c4 : Z * (N * N) = c * X) : k * (k * (k * (k * k))) * c * Q ≤ N ^ 7 * MO := by
 have f1 := Nat.mul_le_mul_left c d5
 have f2 : c * (N * N * (N * (N * X))) = N * N * (N * N) * (Z * (N * N)) := by rw [c4]; simp only [Nat.mul_assoc,Nat.mul_comm,Nat.mul_left_comm]
 rw [f2] at f1
 have f3 := Nat.mul_le_mul_left k f1
 have f4 := Nat.mul_le_mul_left (N * N * (N * N) * (N * N)) c3
 have e1 : k * (k * (k * (k * k))) * c * Q = k * (c * (k * (k * (k * k * Q)))) := by simp only [Nat.mul_assoc,Nat.mul_comm,Nat.mul_left_comm]
 have e2 : k * (N * N * (N * N) * (Z * (N * N))) = N * N * (N * N) * (N * N) * (k * Z) := by simp only [Nat.mul_assoc,Nat.mul_comm,Nat.mul_left_comm]
 have e3 : N * N * (N * N) * (N * N) * (N * MO) = N ^ 7 * MO := by simp only [Nat.pow_succ,Nat.pow_zero,Nat.mul_one,Nat.mul_assoc,Nat.mul_comm,Nat.mul_left_comm]
 rw [e1,← e3]
 rw [e2] at f3
 exact Nat.le_trans f3 f4
theorem w1_of {t1 t2 t3 k1 k2 k3 : Int} {D E q1 q2 q3 : Nat} (h1 : (t1 - k1).natAbs * D ≤ E * q1) (h2 : (t2 - k2).natAbs * D ≤ E * q2) (h3 : (t3 - k3).natAbs * D ≤ E * q3) : ((t1 + t2 + t3) - (k1 + k2 + k3)).natAbs * D ≤ E * (q1 + q2 + q3) :=
 Nat.le_trans (Nat.mul_le_mul_right D (by omega)) (lin_b _ _ _ _ _ _ _ _ h1 h2 h3)
theorem w3_of {t k L : Int} {D E G Q : Nat} (h1 : (t - k).natAbs * D ≤ E * Q) (h2 : (k - L).natAbs * D ≤ G * Q) : (t - L).natAbs * D ≤ (E + G) * Q := by
 rw [Nat.add_mul]
 refine Nat.le_trans ?_ (Nat.add_le_add h1 h2)
 rw [← Nat.add_mul]
 exact Nat.mul_le_mul_right D (by omega)
theorem w2_nat {N x y1 y2 y3 z s1 s2 Q1 Q2 Q3 : Nat} (t : x ≤ y1 + y2 + y3 + z) (u : N * z ≤ s1 + s2) (h1 : y1 * (N * N) ≤ (2 * N + 1) * Q1) (h2 : y2 * (N * N) ≤ (2 * N + 1) * Q2) (h3 : y3 * (N * N) ≤ (2 * N + 1) * Q3)
  (a1 : s1 * (N * N) ≤ (N * N + 2 * N + 1) * Q1) (a2 : s2 * (N * N) ≤ (N * N + 2 * N + 1) * Q2) : x * (N * N * N) ≤ (3 * (N * N) + 3 * N + 1) * (Q1 + Q2 + Q3) := by
 have e1 := Nat.mul_le_mul_right N (lin_b _ _ _ _ _ _ _ _ h1 h2 h3)
 have e2 := Nat.mul_le_mul_right (N * N) u
 have e3 : (s1 + s2) * (N * N) ≤ (N * N + 2 * N + 1) * (Q1 + Q2 + Q3) := by
  rw [Nat.add_mul]
  refine Nat.le_trans (Nat.add_le_add a1 a2) ?_
  rw [← Nat.mul_add]
  exact Nat.mul_le_mul_left _ (by omega)
 have e4 := Nat.mul_le_mul_right (N * N * N) t
 generalize Q1 + Q2 + Q3 = Q at *
 generalize y1 + y2 + y3 = y at *
 have f1 : (3 * (N * N) + 3 * N + 1) * Q = (2 * N + 1) * Q * N + (N * N + 2 * N + 1) * Q := by grind
 have f2 : (y + z) * (N * N * N) = y * (N * N) * N + N * z * (N * N) := by grind
 rw [f1]
 rw [f2] at e4
 exact Nat.le_trans e4 (Nat.add_le_add e1 (Nat.le_trans e2 e3))
theorem w2_of {k1 k2 k3 T1 T2 T3 U1 : Int} {Q1 Q2 Q3 : Nat} (h1 : (k1 - T1).natAbs * (2 ^ 53 * 2 ^ 53) ≤ (2 * 2 ^ 53 + 1) * Q1) (h2 : (k2 - T2).natAbs * (2 ^ 53 * 2 ^ 53) ≤ (2 * 2 ^ 53 + 1) * Q2) (h3 : (k3 - T3).natAbs * (2 ^ 53 * 2 ^ 53) ≤ (2 * 2 ^ 53 + 1) * Q3)
  (a1 : T1.natAbs * (2 ^ 53 * 2 ^ 53) ≤ (2 ^ 53 * 2 ^ 53 + 2 * 2 ^ 53 + 1) * Q1) (a2 : T2.natAbs * (2 ^ 53 * 2 ^ 53) ≤ (2 ^ 53 * 2 ^ 53 + 2 * 2 ^ 53 + 1) * Q2) (sU : 2 ^ 53 * (T1 + T2 - U1).natAbs ≤ (T1 + T2).natAbs) :
  ((k1 + k2 + k3) - (U1 + T3)).natAbs * (2 ^ 53 * 2 ^ 53 * 2 ^ 53) ≤ (3 * (2 ^ 53 * 2 ^ 53) + 3 * 2 ^ 53 + 1) * (Q1 + Q2 + Q3) := by
 have t : ((k1 + k2 + k3) - (U1 + T3)).natAbs ≤ (k1 - T1).natAbs + (k2 - T2).natAbs + (k3 - T3).natAbs + (T1 + T2 - U1).natAbs := by clear h1 h2 h3 a1 a2 sU; omega
 have u : (T1 + T2).natAbs ≤ T1.natAbs + T2.natAbs := Int.natAbs_add_le _ _
 exact w2_nat (N := 2 ^ 53) t (Nat.le_trans sU u) h1 h2 h3 a1 a2
theorem rest_nat {a r : Int} (h : 2 ^ 53 * (a - r).natAbs ≤ a.natAbs) (ha : 0 ≤ a) : (2 ^ 53 - 1) * a.natAbs ≤ 2 ^ 53 * r.natAbs := by omega
theorem rest_two {a b r : Int} (h : 2 ^ 53 * (a + b - r).natAbs ≤ (a + b).natAbs) (ha : 0 ≤ a) (hb : 0 ≤ b) : (2 ^ 53 - 1) * (a.natAbs + b.natAbs) ≤ 2 ^ 53 * r.natAbs := by omega
theorem z_cast {Z X : Int} (h : Z * (2 ^ 53 * 2 ^ 53) = (10 * 2 ^ 53 + 96) * X) : Z.natAbs * (2 ^ 53 * 2 ^ 53) = (10 * 2 ^ 53 + 96) * X.natAbs := by
 have a : ((2 : Int) ^ 53 * 2 ^ 53).natAbs = 2 ^ 53 * 2 ^ 53 := by decide
 have b : ((10 : Int) * 2 ^ 53 + 96).natAbs = 10 * 2 ^ 53 + 96 := by decide
 rw [← a,← b,← Int.natAbs_mul,← Int.natAbs_mul,h]
theorem fin_gen {N k c E D x V1 V2 V3 X1 X2 Z MO Q1 Q2 Q3 : Nat} (hN : 0 < N ^ 7) (hk : k ≤ N) (hD : N ^ 7 = N ^ 4 * D) (hE : E * N ^ 4 ≤ k * (k * (k * (k * k))) * c) (w3 : x * D ≤ E * (Q1 + Q2 + Q3))
  (b1 : k * k * Q1 ≤ N * N * V1) (b2 : k * k * Q2 ≤ N * N * V2) (b3 : k * k * Q3 ≤ N * N * V3) (c1 : k * (V1 + V2) ≤ N * X1) (c2 : k * (X1 + V3) ≤ N * X2) (c3 : k * Z ≤ N * MO) (c4 : Z * (N * N) = c * X2) : x ≤ MO := by
 have d1 : k * k * (Q1 + Q2) ≤ N * N * (V1 + V2) := by
  rw [Nat.mul_add,Nat.mul_add]; exact Nat.add_le_add b1 b2
 have d2 : k * (k * k * (Q1 + Q2)) ≤ N * N * (N * X1) := by
  refine Nat.le_trans (Nat.mul_le_mul_left _ d1) ?_
  rw [Nat.mul_left_comm]
  exact Nat.mul_le_mul_left _ c1
 have d3 : k * (k * k * Q3) ≤ N * N * (N * V3) := by
  refine Nat.le_trans (Nat.mul_le_mul_left _ b3) ?_
  rw [Nat.mul_left_comm]
  exact Nat.mul_le_mul_left _ (Nat.mul_le_mul_right _ hk)
 have d4 : k * (k * k * (Q1 + Q2 + Q3)) ≤ N * N * (N * (X1 + V3)) := by
  rw [Nat.mul_add (k * k) (Q1 + Q2) Q3,Nat.mul_add k,Nat.mul_add N X1,Nat.mul_add (N * N)]
  exact Nat.add_le_add d2 d3
 have d5 : k * (k * (k * k * (Q1 + Q2 + Q3))) ≤ N * N * (N * (N * X2)) := by
  refine Nat.le_trans (Nat.mul_le_mul_left _ d4) ?_
  rw [Nat.mul_left_comm,Nat.mul_left_comm k N]
  exact Nat.mul_le_mul_left _ (Nat.mul_le_mul_left _ c2)
 have e1 := chain_e1 N k c (Q1 + Q2 + Q3) X2 Z MO d5 c3 c4
 have e2 := Nat.mul_le_mul_right (Q1 + Q2 + Q3) hE
 have e3 := Nat.mul_le_mul_left (N ^ 4) w3
 refine Nat.le_of_mul_le_mul_left ?_ hN
 refine Nat.le_trans ?_ (Nat.le_trans e2 e1)
 rw [Nat.mul_right_comm,Nat.mul_comm _ (N ^ 4)]
 refine Nat.le_trans (Nat.le_of_eq ?_) e3
 rw [hD,Nat.mul_assoc,Nat.mul_comm D]
theorem z_nonneg {Z X : Int} (h : Z * (2 ^ 53 * 2 ^ 53) = (10 * 2 ^ 53 + 96) * X) (hx : 0 ≤ X) : 0 ≤ Z := by omega
theorem circ_plain {t1 t2 t3 A1 A2 A3 M1 M2 M3 R1 R2 R3 T1 T2 T3 V1 V2 V3 : Int} {Q1 Q2 Q3 : Nat} {X1 X2 U1 Z MO : Int}
  (h1 : Term t1 A1 M1 R1 T1 V1 Q1) (h2 : Term t2 A2 M2 R2 T2 V2 Q2) (h3 : Term t3 A3 M3 R3 T3 V3 Q3)
  (hU : U1 = rn (T1 + T2)) (hX1 : X1 = rn (V1 + V2)) (hX2 : X2 = rn (X1 + V3)) (hZ : Z * (2 ^ 53 * 2 ^ 53) = (10 * 2 ^ 53 + 96) * X2) (hMO : MO = rn Z) :
  ((t1 + t2 + t3) - (U1 + T3)).natAbs ≤ MO.natAbs ∧ 0 ≤ MO := by
 have v1 := h1.v0
 have v2 := h2.v0
 have v3 := h3.v0
 have x1 : 0 ≤ X1 := by rw [hX1]; exact rn_nonneg (by omega)
 have x2 : 0 ≤ X2 := by rw [hX2]; exact rn_nonneg (by omega)
 have z0 : 0 ≤ Z := z_nonneg hZ x2
 have m0 : 0 ≤ MO := by rw [hMO]; exact rn_nonneg z0
 refine ⟨?_,m0⟩
 have sU := rest_small (T1 + T2)
 have sX1 := rest_small (V1 + V2)
 have sX2 := rest_small (X1 + V3)
 have sZ := rest_small Z
 rw [← hU] at sU
 rw [← hX1] at sX1
 rw [← hX2] at sX2
 rw [← hMO] at sZ
 clear hU hX1 hX2 hMO
 have w1 := w1_of h1.t1 h2.t1 h3.t1
 have w2 := w2_of (k1 := A1 * (M1 - R1)) (k2 := A2 * (M2 - R2)) (k3 := A3 * (M3 - R3)) h1.t2 h2.t2 h3.t2 h1.t3 h2.t3 sU
 have w3 := w3_of w1 w2
 exact fin_gen (N := 2 ^ 53) (k := 2 ^ 53 - 1) (by decide) (by decide) (by decide) fin_num w3 h1.t4 h2.t4 h3.t4 (rest_two sX1 v1 v2) (rest_two sX2 x1 v3) (rest_nat sZ z0) (z_cast hZ)
theorem circ_sign {t L D MO : Int} (h : (t - L).natAbs ≤ MO.natAbs) (h0 : 0 ≤ MO) (hD : D = rn L) (hm : rep MO) :
  (MO < D → sgnI t = 1) ∧ (D < -MO → sgnI t = -1) := by
 have e1 : rn MO = MO := rn_rep hm
 have e2 : rn (-MO) = -MO := rn_rep (rep_neg hm)
 refine ⟨fun hlt => ?_,fun hlt => ?_⟩
 ·have : MO < L := Int.not_le.1 fun hle => by
   have := rn_mono hle
   rw [e1,← hD] at this
   omega
  unfold sgnI
  rw [if_neg (by omega),if_pos (by omega)]
 ·have : L < -MO := Int.not_le.1 fun hle => by
   have := rn_mono hle
   rw [e2,← hD] at this
   omega
  unfold sgnI
  rw [if_pos (by omega)]
structure FG (x : Nat) (B g : Nat) : Prop where
 f : fin x
 le : (fval x).natAbs ≤ 2 ^ (unitE + B)
 gr : (2 : Int) ^ (unitE - g) ∣ fval x
theorem FG.mono {x B g B' g' : Nat} (h : FG x B g) (hB : B ≤ B') (hg : g ≤ g') : FG x B' g' :=
 ⟨h.f,Nat.le_trans h.le (Nat.pow_le_pow_right (by decide) (by omega)),dvd_mono (show unitE - g' ≤ unitE - g by omega) h.gr⟩
theorem FG.neg {x B g : Nat} (h : FG x B g) : FG (fopp x) B g ∧ fval (fopp x) = -fval x := by
 have e := fopp_val h.f.1
 exact ⟨⟨fopp_fin h.f,by rw [e,Int.natAbs_neg]; exact h.le,by rw [e]; exact Int.dvd_neg.2 h.gr⟩,e⟩
theorem FG.abs {x B g : Nat} (h : FG x B g) : FG (x % 2 ^ 63) B g ∧ fval (x % 2 ^ 63) = ((fval x).natAbs : Int) := by
 have e := fval_abs x
 exact ⟨⟨fin_abs h.f,by rw [e,Int.natAbs_natCast]; exact h.le,by rw [e]; exact Int.dvd_natAbs.2 h.gr⟩,e⟩
theorem FG.add {x y B g : Nat} (hx : FG x B g) (hy : FG y B g) (hB : B + 1 ≤ 900) : ∃ r,D.add x y = some r ∧ FG r (B + 1) g ∧ fval r = rn (fval x + fval y) := by
 have b := nadd_pow hx.le hy.le (show unitE + B < unitE + (B + 1) by omega) (show unitE + B < unitE + (B + 1) by omega)
 obtain ⟨r,e,f,v⟩ := add_val hx.f hy.f (inReach_le b (by unfold unitE Tvf.top; omega))
 exact ⟨r,e,⟨f,by rw [v]; exact rn_le_pow b,by rw [v]; exact rn_dvd (Int.dvd_add hx.gr hy.gr)⟩,v⟩
theorem FG.sub {x y B g : Nat} (hx : FG x B g) (hy : FG y B g) (hB : B + 1 ≤ 900) : ∃ r,D.sub x y = some r ∧ FG r (B + 1) g ∧ fval r = rn (fval x - fval y) := by
 have b := nsub_pow hx.le hy.le (show unitE + B < unitE + (B + 1) by omega) (show unitE + B < unitE + (B + 1) by omega)
 obtain ⟨r,e,f,v⟩ := sub_val hx.f hy.f (inReach_le b (by unfold unitE Tvf.top; omega))
 exact ⟨r,e,⟨f,by rw [v]; exact rn_le_pow b,by rw [v]; exact rn_dvd (Int.dvd_sub hx.gr hy.gr)⟩,v⟩
theorem FG.mul {x y B C g k : Nat} (hx : FG x B g) (hy : FG y C k) (hB : B + C ≤ 900) (hg : g + k ≤ 1000) : ∃ r,D.mul x y = some r ∧ FG r (B + C) (g + k) ∧ fval r * 2 ^ unitE = rn (fval x * fval y) := by
 obtain ⟨c1,e1⟩ := hx.gr
 obtain ⟨c2,e2⟩ := hy.gr
 have hz : fval x * fval y = (c1 * c2 * 2 ^ (unitE - (g + k))) * 2 ^ unitE := by
  rw [e1,e2,Int.mul_assoc (c1 * c2),← Int.pow_add,show unitE - (g + k) + unitE = unitE - g + (unitE - k) by unfold unitE; omega,Int.pow_add]
  generalize (2 : Int) ^ (unitE - g) = p1
  generalize (2 : Int) ^ (unitE - k) = p2
  simp only [Int.mul_assoc,Int.mul_comm,Int.mul_left_comm]
 have hb : (c1 * c2 * 2 ^ (unitE - (g + k))).natAbs ≤ 2 ^ (unitE + (B + C)) := by
  refine Nat.le_of_mul_le_mul_right ?_ (two_pow_pos unitE)
  have := congrArg Int.natAbs hz
  rw [Int.natAbs_mul _ (2 ^ unitE),natAbs_two_pow] at this
  rw [← this]
  refine Nat.le_trans (mul_natAbs_le hx.le hy.le) ?_
  rw [← Nat.pow_add,← Nat.pow_add]; exact Nat.pow_le_pow_right (by decide) (by omega)
 obtain ⟨r,e,f,v⟩ := mul_val hx.f hy.f hz (inReach_le hb (by unfold unitE Tvf.top; omega))
 refine ⟨r,e,⟨f,by rw [v]; exact rn_le_pow hb,by rw [v]; exact rn_dvd ⟨c1 * c2,Int.mul_comm _ _⟩⟩,by rw [v,hz]; exact (rn_scale _ _).symm⟩
theorem FG.of {x : Nat} (h64 : x < 2 ^ 64) (h : coordB x = true) : FG x 100 100 := by
 have c := coordF h64 h
 exact ⟨c.f,c.le,c.dv⟩
def cBnd : Nat := 4383128337338335238
theorem fg_bnd : FG cBnd 0 106 ∧ fval cBnd * (2 ^ 53 * 2 ^ 53) = (10 * 2 ^ 53 + 96) * 2 ^ unitE := by
 have e : fval cBnd = (10 * 2 ^ 53 + 96) * 2 ^ 968 := by decide +kernel
 have hp : (2 : Int) ^ unitE = 2 ^ 968 * (2 ^ 53 * 2 ^ 53) := by decide +kernel
 refine ⟨⟨by unfold fin cBnd; omega,by decide +kernel,?_⟩,by rw [e,hp,Int.mul_assoc]⟩
 rw [e]
 exact ⟨10 * 2 ^ 53 + 96,Int.mul_comm _ _⟩
theorem rn_up {a b : Int} (k : Nat) (h : a = rn b) : a * 2 ^ k = rn (b * 2 ^ k) := by rw [rn_scale,h]
theorem term_fl {xa ya xb yb xc yc : Int} {A1 A2 B1 B2 C1 C2 M R P1 P2 AL S T n V : Nat}
  (a1 : fval A1 = rn xa) (a2 : fval A2 = rn ya) (b1 : fval B1 = rn xb) (b2 : fval B2 = rn yb) (c1 : fval C1 = rn xc) (c2 : fval C2 = rn yc)
  (eM : fval M * 2 ^ unitE = rn (fval B1 * fval C2)) (eR : fval R * 2 ^ unitE = rn (fval C1 * fval B2))
  (e1 : fval P1 * 2 ^ unitE = rn (fval A1 * fval A1)) (e2 : fval P2 * 2 ^ unitE = rn (fval A2 * fval A2)) (eA : fval AL = rn (fval P1 + fval P2))
  (eS : fval S = rn (fval M - fval R)) (eT : fval T * 2 ^ unitE = rn (fval AL * fval S))
  (en : fval n = rn (((fval M).natAbs : Int) + (fval R).natAbs)) (eV : fval V * 2 ^ unitE = rn (fval n * fval AL)) :
  ∃ (A' M' R' : Int) (Q : Nat),Term ((xa * xa + ya * ya) * (xb * yc - xc * yb)) A' M' R' (fval T * 2 ^ unitE * 2 ^ unitE * 2 ^ unitE) (fval V * 2 ^ unitE * 2 ^ unitE * 2 ^ unitE) Q := by
 have hA : fval AL * 2 ^ unitE = rn (rn (rn xa * rn xa) + rn (rn ya * rn ya)) := by
  rw [rn_up unitE eA,Int.add_mul,e1,e2,a1,a2]
 have hM : fval M * 2 ^ unitE = rn (rn xb * rn yc) := by rw [eM,b1,c2]
 have hR : fval R * 2 ^ unitE = rn (rn xc * rn yb) := by rw [eR,c1,b2]
 have hS : fval S * 2 ^ unitE = rn (fval M * 2 ^ unitE - fval R * 2 ^ unitE) := by rw [rn_up unitE eS,Int.sub_mul]
 have pu : (2 : Int) ^ unitE = ((2 ^ unitE : Nat) : Int) := by simp
 have hn : fval n * 2 ^ unitE = rn (((fval M * 2 ^ unitE).natAbs : Int) + (fval R * 2 ^ unitE).natAbs) := by
  rw [rn_up unitE en,Int.add_mul,Int.natAbs_mul,Int.natAbs_mul,natAbs_two_pow,Int.natCast_mul,Int.natCast_mul,← pu]
 have hT : fval T * 2 ^ unitE * 2 ^ unitE * 2 ^ unitE = rn ((fval AL * 2 ^ unitE) * rn (fval M * 2 ^ unitE - fval R * 2 ^ unitE)) := by
  rw [← hS,eT,← rn_scale,← rn_scale]
  congr 1
  generalize (2 : Int) ^ unitE = p
  simp only [Int.mul_assoc,Int.mul_comm,Int.mul_left_comm]
 have hV : fval V * 2 ^ unitE * 2 ^ unitE * 2 ^ unitE = rn (rn (((fval M * 2 ^ unitE).natAbs : Int) + (fval R * 2 ^ unitE).natAbs) * (fval AL * 2 ^ unitE)) := by
  rw [← hn,eV,← rn_scale,← rn_scale]
  congr 1
  generalize (2 : Int) ^ unitE = p
  simp only [Int.mul_assoc,Int.mul_comm,Int.mul_left_comm]
 rw [hT,hV]
 have n1 : nr nrE4 (xa * xa + ya * ya) (fval AL * 2 ^ unitE) := by rw [hA]; exact nr_sq xa ya
 have n2 : nr nrE3 (xb * yc) (fval M * 2 ^ unitE) := by rw [hM]; exact nr_prod xb yc
 have n3 : nr nrE3 (xc * yb) (fval R * 2 ^ unitE) := by rw [hR]; exact nr_prod xc yb
 have hA0 : 0 ≤ fval AL * 2 ^ unitE := by rw [hA]; exact rn_nonneg (Int.add_nonneg (rn_nonneg (mul_self_nonneg' _)) (rn_nonneg (mul_self_nonneg' _)))
 exact ⟨_,_,_,_,term_of hA0 (nr_mul n1 n2) (nr_mul n1 n3)⟩
theorem fast_tells {ax ay bx bY cx cy dx dy : Nat} (h64 : ∀ p,p ∈ [(ax,ay),(bx,bY),(cx,cy),(dx,dy)] → pt64 p) (hok : [(ax,ay),(bx,bY),(cx,cy),(dx,dy)].all ptOK = true) :
  ∃ (s : Int) (ok : Bool),fastRun ax ay bx bY cx cy dx dy = some (s,ok) ∧ (ok = false → s = 0) ∧ (ok = true → s = sgnI (det4 (ax,ay) (bx,bY) (cx,cy) (dx,dy))) := by
 have hall : ∀ p : Pt,p ∈ [(ax,ay),(bx,bY),(cx,cy),(dx,dy)] → FG p.1 100 100 ∧ FG p.2 100 100 := by
  intro p hp
  have h1 := h64 p hp
  have h2 := List.all_eq_true.1 hok p hp
  unfold ptOK at h2
  rw [Bool.and_eq_true] at h2
  exact ⟨FG.of h1.1 h2.1,FG.of h1.2 h2.2⟩
 obtain ⟨ga1,ga2⟩ := hall (ax,ay) (by simp)
 obtain ⟨gb1,gb2⟩ := hall (bx,bY) (by simp)
 obtain ⟨gc1,gc2⟩ := hall (cx,cy) (by simp)
 obtain ⟨gd1,gd2⟩ := hall (dx,dy) (by simp)
 clear hall h64 hok
 dsimp only at ga1 ga2 gb1 gb2 gc1 gc2 gd1 gd2
 obtain ⟨A1,e0,f0,v0⟩ := ga1.sub gd1 (by decide)
 obtain ⟨A2,e1,f1,v1⟩ := ga2.sub gd2 (by decide)
 obtain ⟨B1,e2,f2,v2⟩ := gb1.sub gd1 (by decide)
 obtain ⟨B2,e3,f3,v3⟩ := gb2.sub gd2 (by decide)
 obtain ⟨C1,e4,f4,v4⟩ := gc1.sub gd1 (by decide)
 obtain ⟨C2,e5,f5,v5⟩ := gc2.sub gd2 (by decide)
 obtain ⟨M1,e6,f6,v6⟩ := f2.mul f5 (by decide) (by decide)
 obtain ⟨M2,e7,f7,v7⟩ := f4.mul f3 (by decide) (by decide)
 obtain ⟨M3,e8,f8,v8⟩ := f4.mul f1 (by decide) (by decide)
 obtain ⟨M4,e9,f9,v9⟩ := f0.mul f5 (by decide) (by decide)
 obtain ⟨M5,e10,f10,v10⟩ := f0.mul f3 (by decide) (by decide)
 obtain ⟨M6,e11,f11,v11⟩ := f2.mul f1 (by decide) (by decide)
 obtain ⟨P1,e12,f12,v12⟩ := f0.mul f0 (by decide) (by decide)
 obtain ⟨P2,e13,f13,v13⟩ := f1.mul f1 (by decide) (by decide)
 obtain ⟨AL,e14,f14,v14⟩ := f12.add f13 (by decide)
 obtain ⟨P3,e15,f15,v15⟩ := f2.mul f2 (by decide) (by decide)
 obtain ⟨P4,e16,f16,v16⟩ := f3.mul f3 (by decide) (by decide)
 obtain ⟨BL,e17,f17,v17⟩ := f15.add f16 (by decide)
 obtain ⟨P5,e18,f18,v18⟩ := f4.mul f4 (by decide) (by decide)
 obtain ⟨P6,e19,f19,v19⟩ := f5.mul f5 (by decide) (by decide)
 obtain ⟨CL,e20,f20,v20⟩ := f18.add f19 (by decide)
 obtain ⟨S1,e21,f21,v21⟩ := f6.sub f7 (by decide)
 obtain ⟨T1,e22,f22,v22⟩ := f14.mul f21 (by decide) (by decide)
 obtain ⟨S2,e23,f23,v23⟩ := f8.sub f9 (by decide)
 obtain ⟨T2,e24,f24,v24⟩ := f17.mul f23 (by decide) (by decide)
 obtain ⟨U1,e25,f25,v25⟩ := f22.add f24 (by decide)
 obtain ⟨S3,e26,f26,v26⟩ := f10.sub f11 (by decide)
 obtain ⟨T3,e27,f27,v27⟩ := f20.mul f26 (by decide) (by decide)
 obtain ⟨DT,e28,f28,v28⟩ := f25.add (f27.mono (Nat.le_succ _) (Nat.le_refl _)) (by decide)
 obtain ⟨a6,w6⟩ := f6.abs
 obtain ⟨a7,w7⟩ := f7.abs
 obtain ⟨a8,w8⟩ := f8.abs
 obtain ⟨a9,w9⟩ := f9.abs
 obtain ⟨a10,w10⟩ := f10.abs
 obtain ⟨a11,w11⟩ := f11.abs
 obtain ⟨N1,e29,f29,v29⟩ := a6.add a7 (by decide)
 obtain ⟨V1,e30,f30,v30⟩ := f29.mul f14 (by decide) (by decide)
 obtain ⟨N2,e31,f31,v31⟩ := a8.add a9 (by decide)
 obtain ⟨V2,e32,f32,v32⟩ := f31.mul f17 (by decide) (by decide)
 obtain ⟨X1,e33,f33,v33⟩ := f30.add f32 (by decide)
 obtain ⟨N3,e34,f34,v34⟩ := a10.add a11 (by decide)
 obtain ⟨V3,e35,f35,v35⟩ := f34.mul f20 (by decide) (by decide)
 obtain ⟨X2,e36,f36,v36⟩ := f33.add (f35.mono (Nat.le_succ _) (Nat.le_refl _)) (by decide)
 obtain ⟨MO,e37,f37,v37⟩ := fg_bnd.1.mul f36 (by decide) (by decide)
 rw [w6,w7] at v29
 rw [w8,w9] at v31
 rw [w10,w11] at v34
 have e37' : D.mul 4383128337338335238 X2 = some MO := e37
 have hrun : fastRun ax ay bx bY cx cy dx dy = (if fgt DT MO then some (1,true) else if flt DT (fopp MO) then some (-1,true) else some (0,false)) := by
  unfold fastRun
  rw [e0,Option.bind_some,e1,Option.bind_some,e2,Option.bind_some,e3,Option.bind_some,e4,Option.bind_some,e5,Option.bind_some,e6,Option.bind_some,e7,Option.bind_some,e8,Option.bind_some,e9,Option.bind_some,e10,Option.bind_some,e11,Option.bind_some,e12,Option.bind_some,e13,Option.bind_some,e14,Option.bind_some,e15,Option.bind_some,e16,Option.bind_some,e17,Option.bind_some,e18,Option.bind_some,e19,Option.bind_some,e20,Option.bind_some,e21,Option.bind_some,e22,Option.bind_some,e23,Option.bind_some,e24,Option.bind_some,e25,Option.bind_some,e26,Option.bind_some,e27,Option.bind_some,e28,Option.bind_some,e29,Option.bind_some,e30,Option.bind_some,e31,Option.bind_some,e32,Option.bind_some,e33,Option.bind_some,e34,Option.bind_some,e35,Option.bind_some,e36,Option.bind_some,e37', Option.bind_some]
  rw [if_pos ⟨f6.f.1,f7.f.1,f8.f.1,f9.f.1,f10.f.1,f11.f.1⟩]
 clear e0 e1 e2 e3 e4 e5 e6 e7 e8 e9 e10 e11 e12 e13 e14 e15 e16 e17 e18 e19 e20 e21 e22 e23 e24 e25 e26 e27 e28 e29 e30 e31 e32 e33 e34 e35 e36 e37 e37'
 obtain ⟨A', M', R', Q1,t1⟩ := term_fl v0 v1 v2 v3 v4 v5 v6 v7 v12 v13 v14 v21 v22 v29 v30
 obtain ⟨B', M2', R2', Q2,t2⟩ := term_fl v2 v3 v4 v5 v0 v1 v8 v9 v15 v16 v17 v23 v24 v31 v32
 obtain ⟨C', M3', R3', Q3,t3⟩ := term_fl v4 v5 v0 v1 v2 v3 v10 v11 v18 v19 v20 v26 v27 v34 v35
 have nMO := f37.neg
 rw [fgt_val f28.f f37.f,flt_val f28.f nMO.1.f,nMO.2] at hrun
 have hU1 : fval U1 * 2 ^ unitE * 2 ^ unitE * 2 ^ unitE = rn (fval T1 * 2 ^ unitE * 2 ^ unitE * 2 ^ unitE + fval T2 * 2 ^ unitE * 2 ^ unitE * 2 ^ unitE) := by
  rw [rn_up unitE (rn_up unitE (rn_up unitE v25))]; simp only [Int.add_mul]
 have hDT : fval DT * 2 ^ unitE * 2 ^ unitE * 2 ^ unitE = rn (fval U1 * 2 ^ unitE * 2 ^ unitE * 2 ^ unitE + fval T3 * 2 ^ unitE * 2 ^ unitE * 2 ^ unitE) := by
  rw [rn_up unitE (rn_up unitE (rn_up unitE v28))]; simp only [Int.add_mul]
 have hX1 : fval X1 * 2 ^ unitE * 2 ^ unitE * 2 ^ unitE = rn (fval V1 * 2 ^ unitE * 2 ^ unitE * 2 ^ unitE + fval V2 * 2 ^ unitE * 2 ^ unitE * 2 ^ unitE) := by
  rw [rn_up unitE (rn_up unitE (rn_up unitE v33))]; simp only [Int.add_mul]
 have hX2 : fval X2 * 2 ^ unitE * 2 ^ unitE * 2 ^ unitE = rn (fval X1 * 2 ^ unitE * 2 ^ unitE * 2 ^ unitE + fval V3 * 2 ^ unitE * 2 ^ unitE * 2 ^ unitE) := by
  rw [rn_up unitE (rn_up unitE (rn_up unitE v36))]; simp only [Int.add_mul]
 have hMO : fval MO * 2 ^ unitE * 2 ^ unitE * 2 ^ unitE = rn (fval cBnd * fval X2 * 2 ^ unitE * 2 ^ unitE) := rn_up unitE (rn_up unitE v37)
 have hZ : fval cBnd * fval X2 * 2 ^ unitE * 2 ^ unitE * (2 ^ 53 * 2 ^ 53) = (10 * 2 ^ 53 + 96) * (fval X2 * 2 ^ unitE * 2 ^ unitE * 2 ^ unitE) := by
  have h := fg_bnd.2
  generalize fval cBnd = c at *
  generalize (2 : Int) ^ unitE = p at *
  generalize (2 : Int) ^ 53 * 2 ^ 53 = k at *
  generalize (10 : Int) * 2 ^ 53 + 96 = q at *
  have : c * fval X2 * p * p * k = (c * k) * (fval X2 * p * p) := by simp only [Int.mul_assoc,Int.mul_comm,Int.mul_left_comm]
  rw [this,h]
  simp only [Int.mul_assoc,Int.mul_comm,Int.mul_left_comm]
 obtain ⟨q1,q2⟩ := circ_plain t1 t2 t3 hU1 hX1 hX2 hZ hMO
 have hdet : det4 (ax,ay) (bx,bY) (cx,cy) (dx,dy) = ((fval ax - fval dx) * (fval ax - fval dx) + (fval ay - fval dy) * (fval ay - fval dy)) * ((fval bx - fval dx) * (fval cy - fval dy) - (fval cx - fval dx) * (fval bY - fval dy)) + ((fval bx - fval dx) * (fval bx - fval dx) + (fval bY - fval dy) * (fval bY - fval dy)) * ((fval cx - fval dx) * (fval ay - fval dy) - (fval ax - fval dx) * (fval cy - fval dy)) + ((fval cx - fval dx) * (fval cx - fval dx) + (fval cy - fval dy) * (fval cy - fval dy)) * ((fval ax - fval dx) * (fval bY - fval dy) - (fval bx - fval dx) * (fval ay - fval dy)) := rfl
 rw [← hdet] at q1
 have hrep : rep (fval MO * 2 ^ unitE * 2 ^ unitE * 2 ^ unitE) := rep_scale (rep_scale (rep_scale (rep_fval MO) _) _) _
 obtain ⟨r1,r2⟩ := circ_sign q1 q2 hDT hrep
 clear t1 t2 t3 q1 q2 hU1 hX1 hX2 hZ hMO hdet hrep hDT
 have hp : (0 : Int) < 2 ^ unitE := Int.pow_pos (by omega)
 have up : ∀ a b : Int,a < b → a * 2 ^ unitE * 2 ^ unitE * 2 ^ unitE < b * 2 ^ unitE * 2 ^ unitE * 2 ^ unitE := fun a b h =>
  Int.mul_lt_mul_of_pos_right (Int.mul_lt_mul_of_pos_right (Int.mul_lt_mul_of_pos_right h hp) hp) hp
 by_cases k1 : fval MO < fval DT
 ·rw [if_pos (decide_eq_true k1)] at hrun
  exact ⟨1,true,hrun,fun h => (nomatch h),fun _ => (r1 (up _ _ k1)).symm⟩
 ·rw [if_neg (by rw [decide_eq_false k1]; simp)] at hrun
  by_cases k2 : fval DT < -fval MO
  ·rw [if_pos (decide_eq_true k2)] at hrun
   refine ⟨-1,true,hrun,fun h => (nomatch h),fun _ => (r2 ?_).symm⟩
   have := up _ _ k2
   simp only [Int.neg_mul] at this
   exact this
  ·rw [if_neg (by rw [decide_eq_false k2]; simp)] at hrun
   exact ⟨0,false,hrun,fun _ => rfl,fun h => (nomatch h)⟩
theorem csign_all {a b c d : Pt} (h64 : ∀ p,p ∈ [a,b,c,d] → pt64 p) (hok : [a,b,c,d].all ptOK = true) (w : World) :
  Calls Tryz.prog 88 #[V a,V b,V c,V d] w fun r w' => r = .returned (.int .i64 (sgnI (det4 a b c d))) ∧ Below w.heap.size w w' := by
 obtain ⟨ax,ay⟩ := a
 obtain ⟨bx,bY⟩ := b
 obtain ⟨cx,cy⟩ := c
 obtain ⟨dx,dy⟩ := d
 obtain ⟨s,ok,hr,h0,h1⟩ := fast_tells h64 hok
 cases ok
 ·have e := h0 rfl
  subst e
  exact csign_exact ax ay bx bY cx cy dx dy h64 hok (cfast_walk h64 hok hr) w
 ·have e := h1 rfl
  subst e
  exact csign_fast ax ay bx bY cx cy dx dy _ (cfast_walk h64 hok hr) w
theorem cwithin_all {a b c d : Pt} (h64 : ∀ p,p ∈ [a,b,c,d] → pt64 p) (hok : [a,b,c,d].all ptOK = true) (ht : signI a b c = 1) (w : World) :
  Calls Tryz.prog 50 #[V a,V b,V c,V d] w fun r w' => r = .returned (.bool (decide (0 < det4 a b c d))) ∧ Below w.heap.size w w' := by
 have e : (sgnI (det4 a b c d) == 1) = decide (0 < det4 a b c d) := by
  unfold sgnI
  generalize det4 a b c d = z
  by_cases h1 : z < 0
  ·rw [if_pos h1,decide_eq_false (by omega)]; rfl
  ·rw [if_neg h1]
   by_cases h2 : 0 < z
   ·rw [if_pos h2,decide_eq_true h2]; rfl
   ·rw [if_neg h2,decide_eq_false h2]; rfl
 rw [← e]
 refine cwithin_walk (t := 1) (fun w => ?_) (fun w => csign_all h64 hok w) (by decide) w
 have := orient_sign a b c (fun p hp => h64 p (by simp at hp ⊢; rcases hp with h | h | h <;> simp [h])) w
 rwa [ht] at this
end Go.Proofs.YtbagikgpgdlkcaaGreatDoor
