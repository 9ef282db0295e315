/- Part of the proof. No conditions. -/
import Derived.Test.YtdoaniccefdkaaaGreatDoorZ2
import Derived.Test.YtdoaniccefdkaaaGreatDoorZ9
import Derived.Test.YtdoaniccefdkaaaGreatDoorZJ
import Derived.Test.YtdoaniccefdkaaaGreatDoorZK

set_option linter.all false
/- Floats: a quotient by 2 and by 3 that comes out even. -/
namespace Tvf
open Ieee

theorem log2_lt53 {m : Nat} (h : m < 2 ^ 53) : m.log2 ≤ 52 := by
  by_cases h0 : m = 0
  · subst h0; decide
  · have := (Nat.log2_lt h0).2 h; omega

theorem div_val {x y c : Nat} {Q : Int} (hx : fin x) (hc : c = 2 ∨ c = 3) (hy : D.read y = .number false (c * 2 ^ 51) (-51)) (hq : fval x = c * Q) (hr : inReach Q) :
    ∃ r, D.div x y = some r ∧ fin r ∧ fval r = rn Q := by
  obtain ⟨m, k, e1, v1, hm⟩ := read_fin hx
  have hl := log2_lt53 hm
  have hlog : (c * 2 ^ 51).log2 = 52 := by rcases hc with rfl | rfl <;> decide
  have hpos : c * 2 ^ 51 ≠ 0 := by rcases hc with rfl | rfl <;> decide
  have habs : m * 2 ^ k = c * Q.natAbs := by
    have := congrArg Int.natAbs hq
    rw [Int.natAbs_mul, natAbs_fval, v1] at this
    simpa using this
  obtain ⟨E, hE1, hE2⟩ : ∃ E, m * 2 ^ (54 + 52 - m.log2) = c * 2 ^ 51 * E ∧ 2 * E * 2 ^ (k + 50) = Q.natAbs * 2 ^ (54 + 52 - m.log2) := by
    generalize hmo : 54 + 52 - m.log2 = more
    rcases hc with rfl | rfl
    · refine ⟨m * 2 ^ (more - 52), ?_, ?_⟩
      · rw [show (2 : Nat) * 2 ^ 51 = 2 ^ 52 from rfl, Nat.mul_comm (2 ^ 52), Nat.mul_assoc, ← Nat.pow_add, show more - 52 + 52 = more by omega]
      · have e : 2 * (m * 2 ^ (more - 52)) * 2 ^ (k + 50) = m * 2 ^ k * 2 ^ (more - 1) := by
          rw [show more - 1 = (more - 52) + 1 + 50 by omega, Nat.pow_add, Nat.pow_add 2 ((more - 52) + 1), Nat.pow_add 2 (more - 52) 1, Nat.pow_one]
          simp only [Nat.mul_comm, Nat.mul_left_comm, Nat.mul_assoc]
        rw [e, habs, show more = (more - 1) + 1 by omega, Nat.pow_succ, show more - 1 + 1 - 1 = more - 1 by omega]
        simp only [Nat.mul_comm, Nat.mul_assoc]
    · have h3 : 3 ∣ m := by
        have hcop : Nat.Coprime 3 (2 ^ k) := Nat.Coprime.pow_right k (by decide)
        exact hcop.dvd_of_dvd_mul_right ⟨Q.natAbs, habs⟩
      obtain ⟨n, rfl⟩ := h3
      refine ⟨n * 2 ^ (more - 51), ?_, ?_⟩
      · rw [show more = (more - 51) + 51 by omega, Nat.pow_add, show more - 51 + 51 - 51 = more - 51 by omega]
        simp only [Nat.mul_comm, Nat.mul_left_comm, Nat.mul_assoc]
      · have hq3 : n * 2 ^ k = Q.natAbs := by
          have : 3 * (n * 2 ^ k) = 3 * Q.natAbs := by rw [← habs, Nat.mul_assoc]
          omega
        rw [← hq3, show more = (more - 51) + 51 by omega, Nat.pow_add 2 (more - 51) 51, Nat.pow_add 2 k 50, show (2 : Nat) ^ 51 = 2 * 2 ^ 50 from rfl, show more - 51 + 51 - 51 = more - 51 by omega]
        simp only [Nat.mul_comm, Nat.mul_left_comm, Nat.mul_assoc]
  have hdiv : D.div x y = some (D.nearest (fneg x) (2 * E) (-1074 + (k : Int) - (-51) - ((54 + 52 - m.log2 : Nat) : Int) - 1)) := by
    unfold Format.div
    rw [e1, hy]
    have hf : D.fractionBits + 2 = 54 := rfl
    rw [hf]
    simp only [Datum.quotient, if_neg hpos, hlog, Nat.shiftLeft_eq, hE1]
    rw [Nat.mul_div_cancel_left _ (Nat.pos_of_ne_zero hpos), Nat.mul_mod_right]
    simp [Format.write]
  refine ⟨_, hdiv, ?_⟩
  have h := nearest_val (fneg x) (2 * E) Q.natAbs (k + 50) (54 + 52 - m.log2) (-1074 + (k : Int) - (-51) - ((54 + 52 - m.log2 : Nat) : Int) - 1) hE2 (by omega) (by rw [← natAbs_rn]; exact hr)
  refine ⟨h.1, ?_⟩
  rw [h.2.1]
  refine sgn_rnN Q _ ?_
  intro hQ
  have hx0 : fval x ≠ 0 := by
    rw [hq]; rcases hc with rfl | rfl <;> omega
  have hs : fneg x = decide (fval x < 0) := by
    have : fval x = sgn (fneg x) (mg (x % 2 ^ 63)) := rfl
    rw [this] at hx0 ⊢
    unfold sgn at hx0 ⊢
    cases h : fneg x <;> simp [h] at hx0 ⊢ <;> omega
  rw [hs, hq]
  rcases hc with rfl | rfl <;> · apply decide_eq_decide.2; constructor <;> intro h <;> omega

theorem read_two : D.read 4611686018427387904 = .number false (2 * 2 ^ 51) (-51) := by decide
theorem read_three : D.read 4613937818241073152 = .number false (3 * 2 ^ 51) (-51) := by decide

end Tvf

/- Floats: quotients by 2 and 3; whole numbers as floats. -/
namespace Tvf
open Ieee
def fdivq (x y : Nat) : Nat := (D.div x y).getD 0
def fTwo : Nat := 4611686018427387904
def fThree : Nat := 4613937818241073152
theorem half_val {x : Nat} {Q : Int} (hx : fin x) (hq : fval x = 2 * Q) (hr : inReach Q) : D.div x 4611686018427387904 = some (fdivq x 4611686018427387904) ∧ fin (fdivq x 4611686018427387904) ∧ fval (fdivq x 4611686018427387904) = rn Q := by
  obtain ⟨r, h, h2⟩ := div_val hx (.inl rfl) read_two hq hr
  unfold fdivq
  rw [h]; exact ⟨rfl, h2⟩
theorem third_val {x : Nat} {Q : Int} (hx : fin x) (hq : fval x = 3 * Q) (hr : inReach Q) : D.div x 4613937818241073152 = some (fdivq x 4613937818241073152) ∧ fin (fdivq x 4613937818241073152) ∧ fval (fdivq x 4613937818241073152) = rn Q := by
  obtain ⟨r, h, h2⟩ := div_val hx (.inr rfl) read_three hq hr
  unfold fdivq
  rw [h]; exact ⟨rfl, h2⟩
/-- a whole number, as a float -/
def fconv (n : Int) : Nat := D.nearest (decide (n < 0)) n.natAbs 0
theorem fconv_val {n : Int} (h : n.natAbs ≤ 2 ^ 53) : fin (fconv n) ∧ fval (fconv n) = n * 2 ^ unitE := by
  have hrep : rep (n * 2 ^ unitE) := rep_of unitE h
  have hr : inReach (n * 2 ^ unitE) := inReach_le (k := 53 + unitE) (by rw [Int.natAbs_mul, natAbs_two_pow, Nat.pow_add]; exact Nat.mul_le_mul_right _ h) (by decide)
  have h1 := nearest_val (decide (n < 0)) n.natAbs (n * 2 ^ unitE).natAbs unitE 0 0 (by rw [Int.natAbs_mul, natAbs_two_pow]; omega) (by have := unitE_eq; omega) (by rw [← natAbs_rn]; exact hr)
  refine ⟨h1.1, ?_⟩
  show fval (D.nearest _ _ _) = _
  rw [h1.2.1, sgn_rnN (n * 2 ^ unitE) _ (fun h0 => ?_), rn_rep hrep]
  have hp : (0 : Int) < 2 ^ unitE := Int.pow_pos (by omega)
  apply decide_eq_decide.2
  constructor
  · intro h; exact Int.mul_neg_of_neg_of_pos h hp
  · intro h
    apply Classical.byContradiction
    intro hc
    have := Int.mul_nonneg (show 0 ≤ n by omega) (Int.le_of_lt hp); omega
end Tvf
namespace Go
open Tvf
section
variable {P : Program}
@[go_sem] theorem run_fdivq (t : TypeId) (x y : Nat) (h : Tvf.D.div x y = some (fdivq x y)) (w : World) : (binOp .quo t (.float .f64 x) (.float .f64 y)).run P w = .ok (.float .f64 (fdivq x y)) w :=
  run_float_arith w .quo t .f64 x y _ h
@[go_sem] theorem f64_conv (n : Int) : FloatKind.f64.nearest n = fconv n := rfl
end
end Go

/- Whole numbers as floats. -/
namespace Tvf
open Ieee

/-- a float that is a whole number -/
def Wh (x : Nat) (n : Int) : Prop := fin x ∧ fval x = n * 2 ^ unitE
theorem wh_reach {n : Int} (h : n.natAbs ≤ 2 ^ 53) : inReach (n * 2 ^ unitE) ∧ rn (n * 2 ^ unitE) = n * 2 ^ unitE := by
  have hr : rep (n * 2 ^ unitE) := rep_of unitE h
  refine ⟨inReach_le (k := 53 + unitE) ?_ (by have := unitE_eq; have := top_eq; omega), rn_rep hr⟩
  rw [Int.natAbs_mul, natAbs_two_pow, Nat.pow_add]
  exact Nat.mul_le_mul_right _ h
theorem wh_conv {n : Int} (h : n.natAbs ≤ 2 ^ 53) : Wh (fconv n) n := fconv_val h
theorem wh_mul {x y : Nat} {a b : Int} (hx : Wh x a) (hy : Wh y b) (h : (a * b).natAbs ≤ 2 ^ 53) : Wh (fmul x y) (a * b) := by
  obtain ⟨r1, r2⟩ := wh_reach h
  obtain ⟨f, v⟩ := fmul_val hx.1 hy.1 (Z := a * b * 2 ^ unitE) (by rw [hx.2, hy.2]; generalize (2 : Int) ^ unitE = u; grind) r1
  exact ⟨f, v.trans r2⟩
theorem wh_add {x y : Nat} {a b : Int} (hx : Wh x a) (hy : Wh y b) (h : (a + b).natAbs ≤ 2 ^ 53) : Wh (fadd x y) (a + b) := by
  obtain ⟨r1, r2⟩ := wh_reach h
  have e : fval x + fval y = (a + b) * 2 ^ unitE := by rw [hx.2, hy.2, Int.add_mul]
  obtain ⟨f, v⟩ := fadd_val hx.1 hy.1 (by rw [e]; exact r1)
  exact ⟨f, by rw [v, e, r2]⟩
theorem wh_half {x : Nat} {q : Int} (hx : Wh x (2 * q)) (h : q.natAbs ≤ 2 ^ 53) : D.div x 4611686018427387904 = some (fdivq x 4611686018427387904) ∧ Wh (fdivq x 4611686018427387904) q := by
  obtain ⟨r1, r2⟩ := wh_reach h
  obtain ⟨e, f, v⟩ := half_val hx.1 (Q := q * 2 ^ unitE) (by rw [hx.2, Int.mul_assoc]) r1
  exact ⟨e, f, v.trans r2⟩
theorem wh_third {x : Nat} {q : Int} (hx : Wh x (3 * q)) (h : q.natAbs ≤ 2 ^ 53) : D.div x 4613937818241073152 = some (fdivq x 4613937818241073152) ∧ Wh (fdivq x 4613937818241073152) q := by
  obtain ⟨r1, r2⟩ := wh_reach h
  obtain ⟨e, f, v⟩ := third_val hx.1 (Q := q * 2 ^ unitE) (by rw [hx.2, Int.mul_assoc]) r1
  exact ⟨e, f, v.trans r2⟩
theorem wh_six : Wh 4618441417868443648 6 := by
  refine ⟨by unfold fin; omega, ?_⟩
  have h : fval 4618441417868443648 = 3 * 2 ^ 51 * 2 ^ 1024 := by decide +kernel
  rw [h, unitE_eq]
  decide +kernel
end Tvf

namespace Go.Proofs.YtdoaniccefdkaaaGreatDoor
open Go.RowKit Tvf

theorem wh_coord {x : Nat} {n : Int} (h : Wh x n) (hn : n.natAbs ≤ 2 ^ 53) : coordB x = true := by
  unfold coordB
  rw [Bool.and_eq_true]
  constructor
  · rw [fle_val (fin_abs h.1) fin_c100, fval_abs, fval_c100, h.2]
    refine decide_eq_true ?_
    rw [Int.natAbs_mul, natAbs_two_pow]
    have h1 : n.natAbs * 2 ^ unitE ≤ 2 ^ 53 * 2 ^ unitE := Nat.mul_le_mul_right _ hn
    have h2 : 2 ^ 53 * 2 ^ unitE ≤ 2 ^ (unitE + 100) := by
      rw [← Nat.pow_add]; exact Nat.pow_le_pow_right (by decide) (by omega)
    have h3 := Nat.le_trans h1 h2
    have cast : ((2 ^ (unitE + 100) : Nat) : Int) = (2 : Int) ^ (unitE + 100) := by simp
    rw [← cast]
    exact Int.ofNat_le.2 h3
  · refine decide_eq_true ?_
    rw [h.2, Int.natAbs_mul, natAbs_two_pow, show unitE = gridE + 100 by have := gridE_eq; have := unitE_eq; omega, Nat.pow_add, Nat.mul_comm (2 ^ gridE), ← Nat.mul_assoc]
    exact Nat.mul_mod_left _ _

/-- a point of whole numbers -/
def WhP (p : Pt) (q : Int × Int) : Prop := Wh p.1 q.1 ∧ Wh p.2 q.2 ∧ q.1.natAbs ≤ 2 ^ 53 ∧ q.2.natAbs ≤ 2 ^ 53
theorem WhP.ok {p : Pt} {q : Int × Int} (h : WhP p q) : ptOK p = true := by
  unfold ptOK
  rw [wh_coord h.1 h.2.2.1, wh_coord h.2.1 h.2.2.2]; rfl
theorem WhP.p64 {p : Pt} {q : Int × Int} (h : WhP p q) : pt64 p := ⟨h.1.1.1, h.2.1.1.1⟩
def detW (a b c : Int × Int) : Int := (b.1 - a.1) * (c.2 - a.2) - (b.2 - a.2) * (c.1 - a.1)
theorem det_wh {a b c : Pt} {x y z : Int × Int} (ha : WhP a x) (hb : WhP b y) (hc : WhP c z) : det a b c = detW x y z * (2 ^ unitE * 2 ^ unitE) := by
  unfold det detW
  rw [ha.1.2, ha.2.1.2, hb.1.2, hb.2.1.2, hc.1.2, hc.2.1.2]
  generalize (2 : Int) ^ unitE = u
  grind
theorem sgn_wh {a b c : Pt} {x y z : Int × Int} (ha : WhP a x) (hb : WhP b y) (hc : WhP c z) : signI a b c = sgnI (detW x y z) := by
  unfold signI
  have h : [a, b, c].all ptOK = true := by simp [ha.ok, hb.ok, hc.ok]
  rw [if_pos h, det_wh ha hb hc]
  have hp : (0 : Int) < 2 ^ unitE * 2 ^ unitE := Int.mul_pos (Int.pow_pos (by decide)) (Int.pow_pos (by decide))
  generalize (2 : Int) ^ unitE * 2 ^ unitE = u at hp
  generalize detW x y z = d
  unfold sgnI
  by_cases h1 : d < 0
  · rw [if_pos h1, if_pos (Int.mul_neg_of_neg_of_pos h1 hp)]
  · rw [if_neg h1, if_neg (by have := Int.mul_nonneg (Int.not_lt.1 h1) (Int.le_of_lt hp); omega)]
    by_cases h2 : 0 < d
    · rw [if_pos h2, if_pos (Int.mul_pos h2 hp)]
    · have : d = 0 := by omega
      subst this
      simp
theorem sgn_ge {z : Int} : sgnI z ≠ -1 ↔ 0 ≤ z := by
  unfold sgnI
  split
  · simp; omega
  · split <;> simp <;> omega
theorem sgn_pos {z : Int} : 0 < sgnI z ↔ 0 < z := by
  unfold sgnI
  split
  · simp; omega
  · split <;> simp <;> omega

/-- a point between the corners -/
theorem det_lin {k X Y a1 a2 p1 p2 m1 m2 : Int} (h1 : k * p1 = m1) (h2 : k * p2 = m2) : k * (X * (p2 - a2) - Y * (p1 - a1)) = X * (m2 - k * a2) - Y * (m1 - k * a1) := by
  subst h1 h2
  grind
theorem between {k u v w : Int} {a b c p : Int × Int} (hk : 0 < k) (hu : 0 ≤ u) (hv : 0 ≤ v) (hw : 0 ≤ w) (hs : u + v + w = k) (h1 : k * p.1 = u * a.1 + v * b.1 + w * c.1) (h2 : k * p.2 = u * a.2 + v * b.2 + w * c.2) (hd : 0 < detW a b c) :
    0 ≤ detW a b p ∧ 0 ≤ detW b c p ∧ 0 ≤ detW c a p := by
  have e1 : k * detW a b p = w * detW a b c := by
    unfold detW
    rw [det_lin h1 h2, ← hs]
    clear h1 h2 hs hd hk hu hv hw
    grind
  have e2 : k * detW b c p = u * detW a b c := by
    unfold detW
    rw [det_lin h1 h2, ← hs]
    clear h1 h2 hs hd hk hu hv hw
    grind
  have e3 : k * detW c a p = v * detW a b c := by
    unfold detW
    rw [det_lin h1 h2, ← hs]
    clear h1 h2 hs hd hk hu hv hw
    grind
  have f1 : 0 ≤ k * detW a b p := by rw [e1]; exact Int.mul_nonneg hw (Int.le_of_lt hd)
  have f2 : 0 ≤ k * detW b c p := by rw [e2]; exact Int.mul_nonneg hu (Int.le_of_lt hd)
  have f3 : 0 ≤ k * detW c a p := by rw [e3]; exact Int.mul_nonneg hv (Int.le_of_lt hd)
  exact ⟨Int.nonneg_of_mul_nonneg_right f1 hk, Int.nonneg_of_mul_nonneg_right f2 hk, Int.nonneg_of_mul_nonneg_right f3 hk⟩

end Go.Proofs.YtdoaniccefdkaaaGreatDoor

/- WalkFound, plainly: a triangle's corners, the middles of its edges and its own middle lie in it. -/
namespace Go.Proofs.YtdoaniccefdkaaaGreatDoor
open Go.RowKit Tvf Go.Maps Go.WideMaps

theorem ap_kept {M : MeshM} {a b c x y z : Int} (h : M.ap x y = some z) : (makeR M a b c).ap x y = some z := by
  unfold makeR
  split
  · rename_i hc
    obtain ⟨⟨ra, rb, rc⟩, hs, h0, h1, h2⟩ := makeCode_ok hc
    have hne := sgn_toNat hs ⟨ra.1, rb.1, rc.1⟩
    rw [makeM_ap, up3_some h0 h1 h2 hne]
    exact .inl h
  · exact h
theorem ap_keptL : ∀ (l : List Tri3) {M : MeshM} {x y z : Int}, M.ap x y = some z → (foldM M l).ap x y = some z
  | [], _, _, _, _, h => h
  | _ :: r, _, _, _, _, h => ap_keptL r (ap_kept h)
theorem ap_made {M : MeshM} {a b c : Int} (hc : makeCode M a b c = 0) : (makeR M a b c).ap a b = some c := by
  obtain ⟨⟨ra, rb, rc⟩, hs, h0, h1, h2⟩ := makeCode_ok hc
  have hne := sgn_toNat hs ⟨ra.1, rb.1, rc.1⟩
  have hR : makeR M a b c = makeM M a b c := by unfold makeR; rw [if_pos hc]
  rw [hR, makeM_ap, up3_some h0 h1 h2 hne]
  exact .inr (.inl ⟨rfl, rfl, rfl⟩)
/-- what is made lies in the mesh -/
theorem good_ap : ∀ (l : List Tri3) {M : MeshM} {t : Tri3}, t ∈ goodL M l → (foldM M l).ap t.1 t.2.1 = some t.2.2
  | [], _, _, h => by simp [goodL] at h
  | u :: r, M, t, h => by
    unfold goodL at h
    rw [foldM_cons]
    split at h
    · rename_i hc
      rcases List.mem_cons.1 h with rfl | h
      · exact ap_keptL r (ap_made hc)
      · exact good_ap r h
    · exact good_ap r h

theorem out_rot {M : MeshM} {p : Pt} {t : Tri3} (h0 : sdM M p t.1 t.2.1 ≠ -1) (h1 : sdM M p t.2.1 t.2.2 ≠ -1) (h2 : sdM M p t.2.2 t.1 ≠ -1) : outM M p t = none := by
  unfold outM
  rw [if_neg h0, if_neg h1, if_neg h2]

/-- the triangle from its least corner on is one of the mesh's -/
theorem in_tris {M : MeshM} (hs : Sound M) {p : Pt} {t : Tri3} (h : M.ap t.1 t.2.1 = some t.2.2) (h0 : sdM M p t.1 t.2.1 ≠ -1) (h1 : sdM M p t.2.1 t.2.2 ≠ -1) (h2 : sdM M p t.2.2 t.1 ≠ -1) :
    ∃ u, u ∈ trisL M.ap M.P.length ∧ outM M p u = none := by
  have r1 := hs.rot.rot _ _ _ h
  have r2 := hs.rot.rot _ _ _ r1
  obtain ⟨n1, n2, n3⟩ := hs.rot.ne _ _ _ h
  obtain ⟨a, b, c⟩ := t
  dsimp only at *
  by_cases c1 : a < b ∧ a < c
  · exact ⟨(a, b, c), (mem_trisL hs.win _).2 ⟨h, c1.1, c1.2⟩, out_rot h0 h1 h2⟩
  · by_cases c2 : b < c ∧ b < a
    · exact ⟨(b, c, a), (mem_trisL hs.win _).2 ⟨r1, c2.1, c2.2⟩, out_rot h1 h2 h0⟩
    · exact ⟨(c, a, b), (mem_trisL hs.win _).2 ⟨r2, by dsimp only; omega, by dsimp only; omega⟩, out_rot h2 h0 h1⟩

/-- the points of the law -/
def pt6 (q : Int × Int) : Pt := (fmul 4618441417868443648 (fconv q.1), fmul 4618441417868443648 (fconv q.2))
def i16ok (q : Int × Int) : Prop := (-32768 ≤ q.1 ∧ q.1 ≤ 32767) ∧ (-32768 ≤ q.2 ∧ q.2 ≤ 32767)
theorem pt6_wh {q : Int × Int} (h : i16ok q) : WhP (pt6 q) (6 * q.1, 6 * q.2) := by
  obtain ⟨⟨h1, h2⟩, h3, h4⟩ := h
  exact ⟨wh_mul wh_six (wh_conv (by omega)) (by omega), wh_mul wh_six (wh_conv (by omega)) (by omega), by dsimp only; omega, by dsimp only; omega⟩
def at2 (a b : Pt) : Pt := (fdivq (fadd a.1 b.1) 4611686018427387904, fdivq (fadd a.2 b.2) 4611686018427387904)
def at3 (a b c : Pt) : Pt := (fdivq (fadd (fadd a.1 b.1) c.1) 4613937818241073152, fdivq (fadd (fadd a.2 b.2) c.2) 4613937818241073152)
theorem half_ok {x y : Nat} {a b : Int} (hx : Wh x (6 * a)) (hy : Wh y (6 * b)) (ha : -32768 ≤ a ∧ a ≤ 32767) (hb : -32768 ≤ b ∧ b ≤ 32767) :
    D.div (fadd x y) 4611686018427387904 = some (fdivq (fadd x y) 4611686018427387904) ∧ Wh (fdivq (fadd x y) 4611686018427387904) (3 * (a + b)) := by
  have h := wh_add hx hy (by omega)
  rw [show 6 * a + 6 * b = 2 * (3 * (a + b)) by omega] at h
  exact wh_half h (by omega)
theorem third_ok {x y z : Nat} {a b c : Int} (hx : Wh x (6 * a)) (hy : Wh y (6 * b)) (hz : Wh z (6 * c)) (ha : -32768 ≤ a ∧ a ≤ 32767) (hb : -32768 ≤ b ∧ b ≤ 32767) (hc : -32768 ≤ c ∧ c ≤ 32767) :
    fin (fadd x y) ∧ D.div (fadd (fadd x y) z) 4613937818241073152 = some (fdivq (fadd (fadd x y) z) 4613937818241073152) ∧ Wh (fdivq (fadd (fadd x y) z) 4613937818241073152) (2 * (a + b + c)) := by
  have h0 := wh_add hx hy (by omega)
  have h := wh_add h0 hz (by omega)
  rw [show 6 * a + 6 * b + 6 * c = 3 * (2 * (a + b + c)) by omega] at h
  exact ⟨h0.1, wh_third h (by omega)⟩
theorem at2_wh {p q : Pt} {a b : Int × Int} (hp : WhP p (6 * a.1, 6 * a.2)) (hq : WhP q (6 * b.1, 6 * b.2)) (ha : i16ok a) (hb : i16ok b) : WhP (at2 p q) (3 * (a.1 + b.1), 3 * (a.2 + b.2)) := by
  obtain ⟨⟨h1, h2⟩, h3, h4⟩ := ha
  obtain ⟨⟨h5, h6⟩, h7, h8⟩ := hb
  exact ⟨(half_ok hp.1 hq.1 ⟨h1, h2⟩ ⟨h5, h6⟩).2, (half_ok hp.2.1 hq.2.1 ⟨h3, h4⟩ ⟨h7, h8⟩).2, by dsimp only; omega, by dsimp only; omega⟩
theorem at3_wh {p q r : Pt} {a b c : Int × Int} (hp : WhP p (6 * a.1, 6 * a.2)) (hq : WhP q (6 * b.1, 6 * b.2)) (hr : WhP r (6 * c.1, 6 * c.2)) (ha : i16ok a) (hb : i16ok b) (hc : i16ok c) : WhP (at3 p q r) (2 * (a.1 + b.1 + c.1), 2 * (a.2 + b.2 + c.2)) := by
  obtain ⟨⟨h1, h2⟩, h3, h4⟩ := ha
  obtain ⟨⟨h5, h6⟩, h7, h8⟩ := hb
  obtain ⟨⟨g1, g2⟩, g3, g4⟩ := hc
  exact ⟨(third_ok hp.1 hq.1 hr.1 ⟨h1, h2⟩ ⟨h5, h6⟩ ⟨g1, g2⟩).2.2, (third_ok hp.2.1 hq.2.1 hr.2.1 ⟨h3, h4⟩ ⟨h7, h8⟩ ⟨g3, g4⟩).2.2, by dsimp only; omega, by dsimp only; omega⟩
/-- the five points -/
def fiveP (a b c : Pt) (k : Nat) : Pt := match k with
  | 0 => a
  | 1 => at2 a b
  | 2 => at2 b c
  | 3 => at2 a c
  | _ => at3 a b c
theorem five_in {p q r : Pt} {a b c : Int × Int} (hp : WhP p (6 * a.1, 6 * a.2)) (hq : WhP q (6 * b.1, 6 * b.2)) (hr : WhP r (6 * c.1, 6 * c.2)) (ha : i16ok a) (hb : i16ok b) (hc : i16ok c) (hd : 0 < signI p q r) (k : Nat) :
    ptOK (fiveP p q r k) = true ∧ pt64 (fiveP p q r k) ∧ signI p q (fiveP p q r k) ≠ -1 ∧ signI q r (fiveP p q r k) ≠ -1 ∧ signI r p (fiveP p q r k) ≠ -1 := by
  rw [sgn_wh hp hq hr, sgn_pos] at hd
  have key : ∀ (x : Pt) (y : Int × Int), WhP x y → (0 ≤ detW (6 * a.1, 6 * a.2) (6 * b.1, 6 * b.2) y ∧ 0 ≤ detW (6 * b.1, 6 * b.2) (6 * c.1, 6 * c.2) y ∧ 0 ≤ detW (6 * c.1, 6 * c.2) (6 * a.1, 6 * a.2) y) →
      ptOK x = true ∧ pt64 x ∧ signI p q x ≠ -1 ∧ signI q r x ≠ -1 ∧ signI r p x ≠ -1 := fun x y hx h =>
    ⟨hx.ok, hx.p64, by rw [sgn_wh hp hq hx, sgn_ge]; exact h.1, by rw [sgn_wh hq hr hx, sgn_ge]; exact h.2.1, by rw [sgn_wh hr hp hx, sgn_ge]; exact h.2.2⟩
  match k with
  | 0 => exact key _ _ hp (between (k := 1) (u := 1) (v := 0) (w := 0) (by decide) (by decide) (by decide) (by decide) (by decide) (by dsimp only; omega) (by dsimp only; omega) hd)
  | 1 => exact key _ _ (at2_wh hp hq ha hb) (between (k := 2) (u := 1) (v := 1) (w := 0) (by decide) (by decide) (by decide) (by decide) (by decide) (by dsimp only; omega) (by dsimp only; omega) hd)
  | 2 => exact key _ _ (at2_wh hq hr hb hc) (between (k := 2) (u := 0) (v := 1) (w := 1) (by decide) (by decide) (by decide) (by decide) (by decide) (by dsimp only; omega) (by dsimp only; omega) hd)
  | 3 => exact key _ _ (at2_wh hp hr ha hc) (between (k := 2) (u := 1) (v := 0) (w := 1) (by decide) (by decide) (by decide) (by decide) (by decide) (by dsimp only; omega) (by dsimp only; omega) hd)
  | k + 4 => exact key _ _ (at3_wh hp hq hr ha hb hc) (between (k := 3) (u := 1) (v := 1) (w := 1) (by decide) (by decide) (by decide) (by decide) (by decide) (by dsimp only; omega) (by dsimp only; omega) hd)

theorem pt6_get {n : List (Int × Int)} {k : Nat} (h : k < n.length) : (n.map pt6).getD k (0, 0) = pt6 (n.getD k (0, 0)) := by
  rw [List.getD_eq_getElem?_getD, List.getElem?_map, List.getElem?_eq_getElem h, List.getD_eq_getElem?_getD, List.getElem?_eq_getElem h]; rfl
theorem i16_get {n : List (Int × Int)} (hn : ∀ q, q ∈ n → i16ok q) {k : Nat} (h : k < n.length) : i16ok (n.getD k (0, 0)) := by
  rw [List.getD_eq_getElem?_getD, List.getElem?_eq_getElem h]; exact hn _ (List.getElem_mem h)
/-- the law, plainly: of a triangle that was made, the five points are never outside -/
theorem found_in {n : List (Int × Int)} (hn : ∀ q, q ∈ n → i16ok q) {T : List Tri3} {t : Tri3} (ht : t ∈ goodL (emptyM (n.map pt6)) T) (k s : Nat) :
    (0 ≤ t.1 ∧ t.1 < n.length) ∧ (0 ≤ t.2.1 ∧ t.2.1 < n.length) ∧ (0 ≤ t.2.2 ∧ t.2.2 < n.length) ∧
    ptOK (fiveP (pt6 (n.getD t.1.toNat (0, 0))) (pt6 (n.getD t.2.1.toNat (0, 0))) (pt6 (n.getD t.2.2.toNat (0, 0))) k) = true ∧
    pt64 (fiveP (pt6 (n.getD t.1.toNat (0, 0))) (pt6 (n.getD t.2.1.toNat (0, 0))) (pt6 (n.getD t.2.2.toNat (0, 0))) k) ∧
    (findM (foldM (emptyM (n.map pt6)) T) (fiveP (pt6 (n.getD t.1.toNat (0, 0))) (pt6 (n.getD t.2.1.toNat (0, 0))) (pt6 (n.getD t.2.2.toNat (0, 0))) k) s).k ≠ 4 := by
  have hs := madeM_sound (n.map pt6) T
  have hP : (foldM (emptyM (n.map pt6)) T).P = n.map pt6 := foldM_P _ _
  have he := good_ap T ht
  have hg := hs.sgn _ _ _ he
  obtain ⟨⟨a0, a1⟩, ⟨b0, b1⟩, c0, c1⟩ := hs.within3 he
  generalize hM : foldM (emptyM (n.map pt6)) T = M at *
  have hl : M.P.length = n.length := by rw [hP, List.length_map]
  rw [hl] at a1 b1 c1
  obtain ⟨ta, tb, tc⟩ := t
  dsimp only at *
  obtain ⟨a, rfl⟩ : ∃ x : Nat, ta = x := ⟨ta.toNat, by omega⟩
  obtain ⟨b, rfl⟩ : ∃ x : Nat, tb = x := ⟨tb.toNat, by omega⟩
  obtain ⟨c, rfl⟩ : ∃ x : Nat, tc = x := ⟨tc.toNat, by omega⟩
  have ha : a < n.length := by omega
  have hb : b < n.length := by omega
  have hc : c < n.length := by omega
  simp only [Int.toNat_natCast] at *
  unfold signM at hg
  rw [hP, pt6_get ha, pt6_get hb, pt6_get hc] at hg
  have ia := i16_get hn ha
  have ib := i16_get hn hb
  have ic := i16_get hn hc
  obtain ⟨k1, k2, k3, k4, k5⟩ := five_in (pt6_wh ia) (pt6_wh ib) (pt6_wh ic) ia ib ic hg k
  refine ⟨⟨a0, a1⟩, ⟨b0, b1⟩, ⟨c0, c1⟩, k1, k2, ?_⟩
  unfold findM
  have q1 : ptAt M (a : Int) = pt6 (n.getD a (0, 0)) := by rw [ptAt_yes (by omega), hP, pt6_get ha]
  have q2 : ptAt M (b : Int) = pt6 (n.getD b (0, 0)) := by rw [ptAt_yes (by omega), hP, pt6_get hb]
  have q3 : ptAt M (c : Int) = pt6 (n.getD c (0, 0)) := by rw [ptAt_yes (by omega), hP, pt6_get hc]
  exact findL_in (in_tris hs (t := (↑a, ↑b, ↑c)) he (by unfold sdM; rw [q1, q2]; exact k3) (by unfold sdM; rw [q2, q3]; exact k4) (by unfold sdM; rw [q3, q1]; exact k5))

theorem pt6_codes {n : List (Int × Int)} (hn : ∀ q, q ∈ n → i16ok q) (hl : n.length ≤ 1048576) : allCode (n.map pt6) = 0 ∧ ∀ p, p ∈ n.map pt6 → pt64 p := by
  constructor
  · unfold allCode
    rw [List.length_map, if_neg (by omega), if_pos]
    rw [List.all_eq_true]
    intro p hp
    obtain ⟨q, hq, rfl⟩ := List.mem_map.1 hp
    exact (pt6_wh (hn q hq)).ok
  · intro p hp
    obtain ⟨q, hq, rfl⟩ := List.mem_map.1 hp
    exact (pt6_wh (hn q hq)).p64

end Go.Proofs.YtdoaniccefdkaaaGreatDoor

/- trivetlaw16.WalkFound: its arguments, opened. -/
namespace Go.Proofs.YtdoaniccefdkaaaGreatDoor
open Go.ChangeShapes Go.WideShapes Go.ChangeAt Go.RowKit Go.Deep

/-- whole pairs as they lie in memory -/
def ICells (w : World) (ad : Option Addr) (l : List (Int × Int)) : Prop :=
  0 < l.length → ∃ b off, ad = some ⟨b, off, none⟩ ∧ b < w.heap.size ∧ ∀ i, i < l.length → w.cell? ⟨b, off + i * 2, none⟩ = some (.int .i16 (l.getD i (0, 0)).1) ∧ w.cell? ⟨b, off + i * 2 + 1, none⟩ = some (.int .i16 (l.getD i (0, 0)).2)
theorem ICells.below {w w' : World} {ad : Option Addr} {l : List (Int × Int)} (h : ICells w ad l) (hb : Below w.heap.size w w') : ICells w' ad l := by
  intro hl
  obtain ⟨b, off, rfl, hlt, hc⟩ := h hl
  exact ⟨b, off, rfl, Nat.lt_of_lt_of_le hlt hb.size, fun i hi => ⟨(hb.cell (p := ⟨b, off + i * 2, none⟩) hlt).trans (hc i hi).1, (hb.cell (p := ⟨b, off + i * 2 + 1, none⟩) hlt).trans (hc i hi).2⟩⟩

section
variable {H : Type} {enc : TypeId × Value → H} {W : World} {base : Nat} {held : Bool}
theorem cells_i16 : Tryz.prog.cellsOf 103 = 1 := by kernel_rfl
theorem cells_i16p : Tryz.prog.cellsOf 104 = 2 := by kernel_rfl
theorem of_wf16 {a : Int} (h : (Lit.int .i16 a).wf = true) : -32768 ≤ a ∧ a ≤ 32767 := by
  simp [Lit.wf, IntKind.min, IntKind.max, IntKind.bits, IntKind.signed] at h
  omega
set_option maxRecDepth 100000 in
theorem trod_i16p {fuel : Nat} {spare : Nat → Bool} {cs : List Value} {x : DataW H × List MemPlace} (h : DataW.trod enc Tryz.prog W base spare held fuel 104 cs = some x) : ∃ t : Int × Int, cs = [.int .i16 t.1, .int .i16 t.2] ∧ i16ok t := by
  obtain ⟨xs, m, _, _, hl, hx, hi⟩ := DataW.trod_array Tryz.underlying104 h
  rw [cells_i16p] at hl
  match cs, hl, xs, hx with
  | [u, v], _, [x0, x1], _ =>
    have h0 := hi 0 (by omega)
    have h1 := hi 1 (by omega)
    rw [cells_i16] at h0 h1
    obtain ⟨a, ea, _, wa⟩ := DataW.trod_int Tryz.underlying103 h0
    obtain ⟨b, eb, _, wb⟩ := DataW.trod_int Tryz.underlying103 h1
    simp at ea eb
    exact ⟨(a, b), by rw [ea, eb], of_wf16 wa, of_wf16 wb⟩

theorem open_i16s {fuel : Nat} {v : Value} {x : DataW H × List MemPlace} (h : DataW.trod enc Tryz.prog W base (fun _ => true) held fuel 101 [v] = some x) :
    ∃ ad l cap, v = .slice ad (List.length l) cap ∧ ICells W ad l ∧ ∀ t, t ∈ l → i16ok t := by
  rcases open_slice Tryz.underlying101 h with ⟨hcs, _⟩ | ⟨a, len, cap, m, n, D, Pl, hcs, _, hlc, _, hm, _, hel⟩
  · simp at hcs
    exact ⟨none, [], 0, hcs, fun hl => absurd hl (by simp), fun p hp => by simp at hp⟩
  · simp at hcs hm
    rw [cells_i16p] at hel
    obtain ⟨f, hf⟩ := choose_lt (α := Int × Int) (n := len) (p := fun i p => W.cell? ((a.add (i * 2)).add 0) = some (.int .i16 p.1) ∧ W.cell? ((a.add (i * 2)).add 1) = some (.int .i16 p.2) ∧ i16ok p ∧ a.block < W.heap.size ∧ (i = 0 → a.spot = none)) fun i hi => by
      obtain ⟨cs', h1, h2⟩ := hel i (by omega)
      obtain ⟨p, rfl, hp⟩ := trod_i16p h2
      obtain ⟨_, _, hc⟩ := World.cells?_some h1
      have c0 := hc 0 (by omega)
      have c1 := hc 1 (by omega)
      have hbl := World.block_lt_of_cell? _ _ c0
      have hsp := World.cell?_spot c0
      have e1 : ((a.add (i * 2)).add 0).block = a.block := by unfold Addr.add; split <;> split <;> rfl
      have e2 : i = 0 → a.spot = none := fun e => by subst e; simpa [Addr.add] using hsp
      rw [e1] at hbl
      exact ⟨p, c0, c1, hp, hbl, e2⟩
    refine ⟨some a, (List.range len).map f, cap, by simpa using hcs, fun hl => ?_, fun p hp => ?_⟩
    · simp at hl
      obtain ⟨b, off, spot⟩ := a
      have h0 := hf 0 hl
      obtain rfl : spot = none := h0.2.2.2.2 rfl
      refine ⟨b, off, rfl, h0.2.2.2.1, fun i hi => ?_⟩
      simp at hi
      obtain ⟨g0, g1, _⟩ := hf i hi
      rw [getD_map_range f (0, 0) hi]
      rw [Deep.add_add, add_plain] at g0 g1
      exact ⟨by simpa using g0, by simpa [Nat.add_assoc] using g1⟩
    · obtain ⟨i, hi, rfl⟩ := List.mem_map.1 hp
      exact (hf i (List.mem_range.1 hi)).2.2.1
end

end Go.Proofs.YtdoaniccefdkaaaGreatDoor
