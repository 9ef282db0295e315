/- Expansions: the plain theory and the walks. No conditions. -/
import Derived.Test.YthookkmgmholcaaGreatDoorZ1
import Derived.Test.YthookkmgmholcaaGreatDoorZ2
import Derived.Deep.QuietTactic
import Derived.BigQuiet
import Derived.Deep.RegionHeld

/- Expansions as lists of whole numbers: growing and making neat, the plain theory. -/
namespace Tvf

def absSum : List Int → Nat
  | [] => 0
  | x :: r => x.natAbs + absSum r
def isum : List Int → Int
  | [] => 0
  | x :: r => x + isum r

theorem isum_append (a b : List Int) : isum (a ++ b) = isum a + isum b := by
  induction a with
  | nil => simp [isum]
  | cons x r ih => simp only [List.cons_append, isum, ih]; omega
theorem absSum_append (a b : List Int) : absSum (a ++ b) = absSum a + absSum b := by
  induction a with
  | nil => simp [absSum]
  | cons x r ih => simp only [List.cons_append, absSum, ih]; omega
theorem isum_reverse (a : List Int) : isum a.reverse = isum a := by
  induction a with
  | nil => rfl
  | cons x r ih => rw [List.reverse_cons, isum_append, ih]; simp only [isum]; omega
theorem isum_le (a : List Int) : (isum a).natAbs ≤ absSum a := by
  induction a with
  | nil => simp [isum, absSum]
  | cons x r ih => simp only [isum, absSum]; omega
theorem absSum_mem {a : List Int} {x : Int} (h : x ∈ a) : x.natAbs ≤ absSum a := by
  induction a with
  | nil => cases h
  | cons y r ih =>
    simp only [absSum]
    rcases List.mem_cons.1 h with h | h
    · subst h; omega
    · have := ih h; omega

/-- of a rounding: its unit, the error, and that a tie is even -/
theorem rn_unit (z : Int) : ∃ k : Nat, (∃ q : Int, rn z = q * 2 ^ k) ∧ 2 * (rn z - z).natAbs ≤ 2 ^ k ∧
    (rn z ≠ z → 2 ^ (52 + k) ≤ z.natAbs ∧ 1 ≤ k) ∧ (2 * (rn z - z).natAbs = 2 ^ k → ∃ q : Int, rn z = q * 2 ^ (k + 1)) := by
  have key : ∀ n : Nat, ∃ k : Nat, (∃ q : Nat, rnN n = q * 2 ^ k) ∧ (2 * rnN n ≤ 2 * n + 2 ^ k ∧ 2 * n ≤ 2 * rnN n + 2 ^ k) ∧
      (rnN n ≠ n → 2 ^ (52 + k) ≤ n ∧ 1 ≤ k) ∧ (2 * rnN n = 2 * n + 2 ^ k ∨ 2 * n = 2 * rnN n + 2 ^ k → ∃ q : Nat, rnN n = q * 2 ^ (k + 1)) := by
    intro n
    refine ⟨ulpE n, ⟨_, rfl⟩, cutE_err n (ulpE n), ?_, ?_⟩
    · intro h
      have h1 : 1 ≤ ulpE n := by
        apply Classical.byContradiction
        intro hc
        exact h (rnN_small n (ulpE_zero n (by omega)))
      exact ⟨(ulpE_lo n _ rfl h1).1, h1⟩
    · intro h
      have hp := two_pow_pos (ulpE n)
      have hd := Nat.div_add_mod n (2 ^ ulpE n)
      have hm := Nat.mod_lt n hp
      unfold rnN at h ⊢
      have hev : cutE n (ulpE n) % 2 = 0 := by
        unfold cutE at h ⊢
        rw [Nat.mul_comm] at hd
        generalize 2 ^ ulpE n = p at *
        generalize n % p = r at *
        generalize n / p = l at *
        split
        · rename_i hc
          rw [if_pos hc, Nat.add_mul] at h
          rcases hc with hc | hc
          · omega
          · omega
        · rename_i hc
          rw [if_neg hc, Nat.add_zero] at h
          have h2 : p = 2 * r := by omega
          have : ¬ l % 2 = 1 := fun h3 => hc (Or.inr ⟨h2, h3⟩)
          omega
      refine ⟨cutE n (ulpE n) / 2, ?_⟩
      rw [Nat.pow_succ, Nat.mul_comm (2 ^ ulpE n), ← Nat.mul_assoc, show cutE n (ulpE n) / 2 * 2 = cutE n (ulpE n) by omega]
  obtain ⟨k, ⟨q, hq⟩, h1, h2, h3⟩ := key z.natAbs
  have cast : ∀ (a b : Nat), ((a * 2 ^ b : Nat) : Int) = (a : Int) * 2 ^ b := fun a b => by simp
  refine ⟨k, ?_, ?_, ?_, ?_⟩
  · unfold rn; rw [hq, cast]
    split
    · exact ⟨-q, by rw [Int.neg_mul]⟩
    · exact ⟨q, rfl⟩
  · clear h3 h2 hq; unfold rn; split <;> omega
  · intro h
    refine h2 ?_
    clear h3 h2 hq
    intro e; apply h; unfold rn; rw [e]; split <;> omega
  · intro h
    have hp : 2 * rnN z.natAbs = 2 * z.natAbs + 2 ^ k ∨ 2 * z.natAbs = 2 * rnN z.natAbs + 2 ^ k := by
      clear h3 h2 hq
      unfold rn at h; split at h <;> omega
    obtain ⟨q', hq'⟩ := h3 hp
    unfold rn; rw [hq', cast]
    split
    · exact ⟨-q', by rw [Int.neg_mul]⟩
    · exact ⟨q', rfl⟩

/-- a rounded multiple is a multiple -/
theorem rn_dvd {z : Int} {k : Nat} (h : (2 : Int) ^ k ∣ z) : (2 : Int) ^ k ∣ rn z := by
  obtain ⟨q, rfl⟩ := h
  rw [Int.mul_comm, rn_scale]; exact ⟨rn q, Int.mul_comm _ _⟩

theorem rest_le_right {q x : Int} (hq : rep q) : (q + x - rn (q + x)).natAbs ≤ x.natAbs := by
  have := rn_near (q + x) q hq; omega

/-- 2^k divides what is not nought and smaller than 2^j: then k < j -/
theorem dvd_lt {k j : Nat} {x : Int} (h : (2 : Int) ^ k ∣ x) (h0 : x ≠ 0) (hl : x.natAbs < 2 ^ j) : k < j := by
  have h1 : 2 ^ k ≤ x.natAbs := by
    have := Int.natAbs_dvd_natAbs.2 h
    rw [Int.natAbs_pow] at this
    exact Nat.le_of_dvd (by omega) this
  exact (Nat.pow_lt_pow_iff_right (show 1 < 2 by omega)).1 (Nat.lt_of_le_of_lt h1 hl)

theorem dvd_mono {k j : Nat} (h : k ≤ j) {x : Int} (hx : (2 : Int) ^ j ∣ x) : (2 : Int) ^ k ∣ x := by
  refine Int.dvd_trans ?_ hx
  exact ⟨2 ^ (j - k), by rw [← Int.pow_add, show k + (j - k) = j by omega]⟩

/-- one upon the other: each is a multiple of a power of two above the one before it -/
def nov : Nat → List Int → Prop
  | _, [] => True
  | p, x :: r => x ≠ 0 ∧ (∃ k : Nat, p < 2 ^ k ∧ (2 : Int) ^ k ∣ x) ∧ nov x.natAbs r

theorem nov_all {p : Nat} {x : Int} {r : List Int} (h : nov p (x :: r)) {k : Nat} (hk : (2 : Int) ^ k ∣ x) : ∀ y, y ∈ r → (2 : Int) ^ k ∣ y := by
  induction r generalizing p x k with
  | nil => intro y hy; cases hy
  | cons z r ih =>
    obtain ⟨h1, _, h3⟩ := h
    obtain ⟨z1, ⟨j, hj1, hj2⟩, z3⟩ := h3
    have hkj := dvd_lt hk h1 hj1
    have hz := dvd_mono (Nat.le_of_lt hkj) hj2
    intro y hy
    rcases List.mem_cons.1 hy with e | e
    · subst e; exact hz
    · exact ih (p := x.natAbs) ⟨z1, ⟨j, hj1, hj2⟩, z3⟩ hz y e

theorem nov_mono {p p' : Nat} (h : p' ≤ p) {l : List Int} (hl : nov p l) : nov p' l := by
  cases l with
  | nil => trivial
  | cons x r => exact ⟨hl.1, hl.2.1.imp fun k hk => ⟨Nat.lt_of_le_of_lt h hk.1, hk.2⟩, hl.2.2⟩

/-- growing, from a carried number on -/
def growGo : Int → List Int → List Int
  | q, [] => if q = 0 then [] else [q]
  | q, x :: r => if q + x - rn (q + x) = 0 then growGo (rn (q + x)) r else (q + x - rn (q + x)) :: growGo (rn (q + x)) r

theorem growGo_sum (e : List Int) : ∀ q, isum (growGo q e) = q + isum e := by
  induction e with
  | nil => intro q; unfold growGo; split <;> simp [isum] <;> omega
  | cons x r ih =>
    intro q; unfold growGo
    split
    · rw [ih]; simp only [isum]; omega
    · simp only [isum, ih]; omega

theorem growGo_len (e : List Int) : ∀ q, (growGo q e).length ≤ e.length + 1 := by
  induction e with
  | nil => intro q; unfold growGo; split <;> simp
  | cons x r ih =>
    intro q; unfold growGo
    have := ih (rn (q + x))
    split
    · simp only [List.length_cons]; omega
    · simp only [List.length_cons]; omega

theorem growGo_nz (e : List Int) : ∀ q, ∀ y, y ∈ growGo q e → y ≠ 0 := by
  induction e with
  | nil =>
    intro q y hy; unfold growGo at hy; split at hy
    · cases hy
    · rename_i h; simp at hy; rw [hy]; exact h
  | cons x r ih =>
    intro q y hy; unfold growGo at hy
    split at hy
    · exact ih _ y hy
    · rename_i h
      rcases List.mem_cons.1 hy with e | e
      · rw [e]; exact h
      · exact ih _ y e

theorem growGo_dvd (k : Nat) (e : List Int) : ∀ q, (2 : Int) ^ k ∣ q → (∀ y, y ∈ e → (2 : Int) ^ k ∣ y) → ∀ y, y ∈ growGo q e → (2 : Int) ^ k ∣ y := by
  induction e with
  | nil =>
    intro q hq _ y hy; unfold growGo at hy; split at hy
    · cases hy
    · simp at hy; rw [hy]; exact hq
  | cons x r ih =>
    intro q hq he y hy; unfold growGo at hy
    have hs : (2 : Int) ^ k ∣ q + x := Int.dvd_add hq (he x (List.mem_cons_self ..))
    have hr := rn_dvd hs
    split at hy
    · exact ih _ hr (fun y hy => he y (List.mem_cons_of_mem _ hy)) y hy
    · rcases List.mem_cons.1 hy with e | e
      · rw [e]; exact Int.dvd_sub hs hr
      · exact ih _ hr (fun y hy => he y (List.mem_cons_of_mem _ hy)) y e

theorem growGo_rep (e : List Int) : ∀ q, rep q → (∀ y, y ∈ e → rep y) → ∀ y, y ∈ growGo q e → rep y := by
  induction e with
  | nil =>
    intro q hq _ y hy; unfold growGo at hy; split at hy
    · cases hy
    · simp at hy; rw [hy]; exact hq
  | cons x r ih =>
    intro q hq he y hy; unfold growGo at hy
    split at hy
    · exact ih _ (rep_rn _) (fun y hy => he y (List.mem_cons_of_mem _ hy)) y hy
    · rcases List.mem_cons.1 hy with e | e
      · rw [e]; exact sum_rest hq (he x (List.mem_cons_self ..))
      · exact ih _ (rep_rn _) (fun y hy => he y (List.mem_cons_of_mem _ hy)) y e

/-- what comes of growing lies one upon the other -/
theorem growGo_nov (e : List Int) : ∀ (p c : Nat) (q : Int), rep q → (∃ k : Nat, p < 2 ^ k ∧ (2 : Int) ^ k ∣ q ∧ ∀ y, y ∈ e → (2 : Int) ^ k ∣ y) → nov c e → nov p (growGo q e) := by
  induction e with
  | nil =>
    intro p c q _ ⟨k, h1, h2, _⟩ _
    unfold growGo; split
    · trivial
    · rename_i h; exact ⟨h, ⟨k, h1, h2⟩, trivial⟩
  | cons x r ih =>
    intro p c q hq ⟨k, h1, h2, h3⟩ hn
    have hs : (2 : Int) ^ k ∣ q + x := Int.dvd_add h2 (h3 x (List.mem_cons_self ..))
    have hr := rn_dvd hs
    unfold growGo
    split
    · exact ih p x.natAbs _ (rep_rn _) ⟨k, h1, hr, fun y hy => h3 y (List.mem_cons_of_mem _ hy)⟩ hn.2.2
    · rename_i hne
      refine ⟨hne, ⟨k, h1, Int.dvd_sub hs hr⟩, ?_⟩
      refine ih _ x.natAbs _ (rep_rn _) ?_ hn.2.2
      obtain ⟨ks, ⟨qs, hqs⟩, he, h5, h6⟩ := rn_unit (q + x)
      clear h5 h6
      have hlt : (q + x - rn (q + x)).natAbs < 2 ^ ks := by
        have := two_pow_pos ks; omega
      have hle := rest_le_right (x := x) hq
      cases r with
      | nil => exact ⟨ks, hlt, ⟨qs, by rw [hqs, Int.mul_comm]⟩, fun y hy => by cases hy⟩
      | cons z r =>
        obtain ⟨j, hj1, hj2⟩ := hn.2.2.2.1
        have hall := nov_all hn.2.2 hj2
        refine ⟨min ks j, ?_, dvd_mono (Nat.min_le_left _ _) ⟨qs, by rw [hqs, Int.mul_comm]⟩, ?_⟩
        · by_cases hc : ks ≤ j
          · rw [Nat.min_eq_left hc]; exact hlt
          · rw [Nat.min_eq_right (by omega)]; omega
        · intro y hy
          refine dvd_mono (Nat.min_le_right _ _) ?_
          rcases List.mem_cons.1 hy with e | e
          · rw [e]; exact hj2
          · exact hall y e

/-! ### how great -/

theorem rest_small (z : Int) : 2 ^ 53 * (z - rn z).natAbs ≤ z.natAbs := by
  obtain ⟨k, h4, h1, h2, h3⟩ := rn_unit z
  clear h4 h3
  by_cases h : rn z = z
  · rw [h]; simp
  · have := (h2 h).1
    rw [Nat.pow_add] at this
    omega

/-- what is cut off on the way: its sum is small -/
def cutSum : Int → List Int → Nat
  | _, [] => 0
  | q, x :: r => (q + x - rn (q + x)).natAbs + cutSum (rn (q + x)) r

theorem growGo_abs1 (e : List Int) : ∀ q : Int, absSum (growGo q e) ≤ q.natAbs + absSum e + 2 * cutSum q e := by
  induction e with
  | nil => intro q; unfold growGo; split <;> simp [absSum, cutSum]
  | cons x r ih =>
    intro q; unfold growGo
    have := ih (rn (q + x))
    simp only [absSum, cutSum]
    split
    · omega
    · simp only [absSum]; omega

/-- each step cuts off but a small part of all that there is -/
theorem cutSum_le (e : List Int) : ∀ (q : Int) (A : Nat), q.natAbs + absSum e ≤ A → 2 ^ 52 * cutSum q e ≤ e.length * (A + 2 * cutSum q e) := by
  induction e with
  | nil => intro q A _; simp [cutSum]
  | cons x r ih =>
    intro q A hA
    simp only [cutSum, absSum, List.length_cons] at *
    have h1 := rest_small (q + x)
    have h3 : (q + x).natAbs ≤ A := by omega
    generalize hh : (q + x - rn (q + x)).natAbs = H at *
    have h2 : (rn (q + x)).natAbs + absSum r ≤ A + H := by omega
    have h4 := ih (rn (q + x)) (A + H) h2
    generalize cutSum (rn (q + x)) r = C at *
    have e1 : (r.length + 1) * (A + 2 * (H + C)) = r.length * (A + 2 * (H + C)) + (A + 2 * (H + C)) := by rw [Nat.add_mul, Nat.one_mul]
    have e2 : r.length * (A + H + 2 * C) ≤ r.length * (A + 2 * (H + C)) := Nat.mul_le_mul_left _ (by omega)
    omega

theorem growGo_abs (q : Int) (e : List Int) (hl : e.length ≤ 2 ^ 10) : 2 ^ 40 * absSum (growGo q e) ≤ (2 ^ 40 + 1) * (q.natAbs + absSum e) := by
  have h1 := growGo_abs1 e q
  have h2 := cutSum_le e q _ (Nat.le_refl _)
  generalize absSum (growGo q e) = W at *
  generalize cutSum q e = C at *
  generalize q.natAbs + absSum e = A at *
  have h3 : e.length * (A + 2 * C) ≤ 2 ^ 10 * (A + 2 * C) := Nat.mul_le_mul_right _ hl
  omega

/-- and each number on the way is not much greater -/
theorem step_abs (q x : Int) : 2 ^ 40 * (rn (q + x)).natAbs ≤ (2 ^ 40 + 1) * (q.natAbs + x.natAbs) := by
  have := rest_small (q + x)
  omega

end Tvf

/- Making neat: what comes of it lies one upon the other, is short, and not much greater than its sum. -/
namespace Tvf

/-- from the greatest on: what follows is smaller than a power of two that each divides -/
def dn : List Int → Prop
  | [] => True
  | x :: r => x ≠ 0 ∧ (∃ k : Nat, (2 : Int) ^ k ∣ x ∧ absSum r < 2 ^ k) ∧ dn r

def p1 : Int → List Int → List Int × Int
  | q, [] => ([], q)
  | q, x :: r => if q + x - rn (q + x) = 0 then p1 (rn (q + x)) r else ((p1 (q + x - rn (q + x)) r).1 ++ [rn (q + x)], (p1 (q + x - rn (q + x)) r).2)

theorem p1_sum (d : List Int) : ∀ q, isum (p1 q d).1 + (p1 q d).2 = q + isum d := by
  induction d with
  | nil => intro q; simp [p1, isum]
  | cons x r ih =>
    intro q; unfold p1
    split
    · rw [ih]; simp only [isum]; omega
    · have := ih (q + x - rn (q + x))
      simp only [isum_append, isum] at *; omega

theorem p1_rep (d : List Int) : ∀ q, rep q → (∀ y, y ∈ d → rep y) → rep (p1 q d).2 ∧ ∀ y, y ∈ (p1 q d).1 → rep y := by
  induction d with
  | nil => intro q hq _; exact ⟨hq, fun y hy => by cases hy⟩
  | cons x r ih =>
    intro q hq hd; unfold p1
    have hr : ∀ y, y ∈ r → rep y := fun y hy => hd y (List.mem_cons_of_mem _ hy)
    split
    · exact ih _ (rep_rn _) hr
    · have := ih _ (sum_rest hq (hd x (List.mem_cons_self ..))) hr
      refine ⟨this.1, fun y hy => ?_⟩
      rcases List.mem_append.1 hy with h | h
      · exact this.2 y h
      · simp at h; rw [h]; exact rep_rn _

theorem p1_dvd (k : Nat) (d : List Int) : ∀ q, (2 : Int) ^ k ∣ q → (∀ y, y ∈ d → (2 : Int) ^ k ∣ y) → (2 : Int) ^ k ∣ (p1 q d).2 ∧ ∀ y, y ∈ (p1 q d).1 → (2 : Int) ^ k ∣ y := by
  induction d with
  | nil => intro q hq _; exact ⟨hq, fun y hy => by cases hy⟩
  | cons x r ih =>
    intro q hq hd; unfold p1
    have hr : ∀ y, y ∈ r → (2 : Int) ^ k ∣ y := fun y hy => hd y (List.mem_cons_of_mem _ hy)
    have hs : (2 : Int) ^ k ∣ q + x := Int.dvd_add hq (hd x (List.mem_cons_self ..))
    have hrn := rn_dvd hs
    split
    · exact ih _ hrn hr
    · have := ih _ (Int.dvd_sub hs hrn) hr
      refine ⟨this.1, fun y hy => ?_⟩
      rcases List.mem_append.1 hy with h | h
      · exact this.2 y h
      · simp at h; rw [h]; exact hrn

theorem p1_len (d : List Int) : ∀ q, (p1 q d).1.length ≤ d.length := by
  induction d with
  | nil => intro q; simp [p1]
  | cons x r ih =>
    intro q; unfold p1
    split
    · have := ih (rn (q + x)); simp only [List.length_cons]; omega
    · have := ih (q + x - rn (q + x)); simp only [List.length_append, List.length_cons, List.length_nil]; omega

theorem natAbs_two_pow' (k : Nat) : ((2 : Int) ^ k).natAbs = 2 ^ k := by rw [Int.natAbs_pow]; rfl

theorem nov_snoc (l : List Int) (g s : Int) (p : Nat) (h : nov p (l ++ [g])) (hs : s ≠ 0) (hg : ∃ v : Nat, g.natAbs < 2 ^ v ∧ (2 : Int) ^ v ∣ s) : nov p (l ++ [g] ++ [s]) := by
  induction l generalizing p with
  | nil => exact ⟨h.1, h.2.1, hs, hg, trivial⟩
  | cons x r ih => exact ⟨h.1, h.2.1, ih _ h.2.2⟩

theorem natAbs_ge_of_dvd {k : Nat} {x : Int} (h : (2 : Int) ^ k ∣ x) (h0 : x ≠ 0) : 2 ^ k ≤ x.natAbs := by
  have := Int.natAbs_dvd_natAbs.2 h
  rw [Int.natAbs_pow] at this
  exact Nat.le_of_dvd (by omega) this

theorem rn_ge_pow {z : Int} {k : Nat} (h : 2 ^ k ≤ z.natAbs) : 2 ^ k ≤ (rn z).natAbs := by
  have hr : rep ((2 : Int) ^ k) := by
    have := rep_of (m := 1) k (by decide); rw [Int.one_mul] at this; exact this
  have cast : ((2 ^ k : Nat) : Int) = (2 : Int) ^ k := by simp
  by_cases h0 : 0 ≤ z
  · have m := rn_mono (a := 2 ^ k) (b := z) (by rw [← cast]; omega)
    rw [rn_rep hr, ← cast] at m; omega
  · have m := rn_mono (a := z) (b := -(2 ^ k)) (by rw [← cast]; omega)
    rw [rn_rep (rep_neg hr), ← cast] at m; omega

/-- where something is cut off: all that follows is small beside what stands -/
theorem emit {z T : Int} {j : Nat} (hz : (2 : Int) ^ j ∣ z) (h : z - rn z ≠ 0) (hT : T.natAbs < 2 ^ j) :
    ∃ v : Nat, (2 : Int) ^ v ∣ rn z ∧ 4 * (z - rn z + T).natAbs ≤ 3 * 2 ^ v ∧ 2 ^ 51 * 2 ^ v ≤ (rn z).natAbs := by
  obtain ⟨k, ⟨q, hq⟩, h1, h2, h3⟩ := rn_unit z
  have hne : rn z ≠ z := fun e => h (by omega)
  obtain ⟨h4, hk1⟩ := h2 hne
  have hd : (2 : Int) ^ j ∣ z - rn z := Int.dvd_sub hz (rn_dvd hz)
  have hge := natAbs_ge_of_dvd hd h
  have hk : 2 ^ k = 2 * 2 ^ (k - 1) := by rw [show k = k - 1 + 1 by omega, Nat.pow_succ]; simp; omega
  have hjk : j ≤ k - 1 := by
    have : 2 ^ j ≤ 2 ^ (k - 1) := by clear hq h3; omega
    exact (Nat.pow_le_pow_iff_right (show 1 < 2 by omega)).1 this
  have hrn := rn_ge_pow h4
  by_cases hj : j = k - 1
  · -- a tie: even
    have htie : 2 * (rn z - z).natAbs = 2 ^ k := by rw [hj] at hge; clear hq h3; omega
    obtain ⟨q', hq'⟩ := h3 htie
    refine ⟨k + 1, ⟨q', by rw [hq', Int.mul_comm]⟩, ?_, ?_⟩
    · rw [hj] at hT; rw [Nat.pow_succ]; clear hq h3 hq'; omega
    · rw [show (52 + k) = 51 + (k + 1) by omega, Nat.pow_add] at hrn; exact hrn
  · refine ⟨k, ⟨q, by rw [hq, Int.mul_comm]⟩, ?_, ?_⟩
    · have hj2 : j ≤ k - 1 - 1 := by omega
      have p2 : 2 ^ j ≤ 2 ^ (k - 1 - 1) := Nat.pow_le_pow_right (by omega) hj2
      have p3 : 2 ^ (k - 1) = 2 * 2 ^ (k - 1 - 1) := by rw [show k - 1 = k - 1 - 1 + 1 by omega, Nat.pow_succ]; simp; omega
      clear hq h3; omega
    · rw [Nat.pow_add] at hrn
      clear hq h3; omega

/-- what the first pass leaves -/
theorem p1_top (d : List Int) : ∀ q, (∃ k : Nat, (2 : Int) ^ k ∣ q ∧ absSum d < 2 ^ k) → dn d →
    ((p1 q d).1 = [] ∧ (p1 q d).2 = q + isum d) ∨
    ∃ gs g, (p1 q d).1 = gs ++ [g] ∧ g ≠ 0 ∧ 2 ^ 50 * (q + isum d - g).natAbs ≤ g.natAbs ∧ nov 0 (gs ++ [g]) ∧ 2 ^ 48 * (absSum gs + (p1 q d).2.natAbs) ≤ g.natAbs ∧ 2 ^ (51 * gs.length) ≤ g.natAbs := by
  induction d with
  | nil => intro q _ _; left; simp [p1, isum]
  | cons x r ih =>
    intro q ⟨k, hk1, hk2⟩ ⟨hx0, ⟨j, hj1, hj2⟩, hr⟩
    simp only [absSum] at hk2
    have hjk : j < k := dvd_lt hj1 hx0 (by omega)
    have hz : (2 : Int) ^ j ∣ q + x := Int.dvd_add (dvd_mono (Nat.le_of_lt hjk) hk1) hj1
    unfold p1
    split
    · rename_i h0
      have := ih (rn (q + x)) ⟨j, rn_dvd hz, hj2⟩ hr
      rw [show rn (q + x) + isum r = q + isum (x :: r) by simp only [isum]; omega] at this
      exact this
    · rename_i h0
      right
      have hT : (isum r).natAbs < 2 ^ j := Nat.lt_of_le_of_lt (isum_le r) hj2
      obtain ⟨v, v1, v2, v3⟩ := emit hz h0 hT
      have hs0 : rn (q + x) ≠ 0 := by have := two_pow_pos v; omega
      have hT2 : q + isum (x :: r) - rn (q + x) = q + x - rn (q + x) + isum r := by simp only [isum]; omega
      rcases ih (q + x - rn (q + x)) ⟨j, Int.dvd_sub hz (rn_dvd hz), hj2⟩ hr with ⟨g1, g2⟩ | ⟨gs, g, g1, g2, g3, g4, g5, g6⟩
      · rw [g1, g2]
        generalize q + x - rn (q + x) + isum r = T at *
        generalize rn (q + x) = S at *
        refine ⟨[], S, rfl, hs0, by rw [hT2]; clear hz hj1 hk1 v1; omega, ⟨hs0, ⟨0, by simp, by simp⟩, trivial⟩, ?_, by simp; omega⟩
        simp only [absSum]
        clear hz hj1 hk1 v1; omega
      · rw [g1]
        generalize (p1 (q + x - rn (q + x)) r).2 = F at *
        generalize q + x - rn (q + x) + isum r = T at *
        generalize rn (q + x) = S at *
        have hgv : g.natAbs < 2 ^ v := by clear hz hj1 hk1 v1; omega
        refine ⟨gs ++ [g], S, rfl, hs0, by rw [hT2]; clear hz hj1 hk1 v1; omega, nov_snoc gs g S 0 g4 hs0 ⟨v, hgv, v1⟩, ?_, ?_⟩
        · rw [absSum_append]; simp only [absSum]
          clear hz hj1 hk1 v1; omega
        · rw [List.length_append, show 51 * (gs.length + [g].length) = 51 + 51 * gs.length by simp; omega, Nat.pow_add]
          have h1 : 2 ^ 51 * g.natAbs ≤ 2 ^ 51 * 2 ^ v := Nat.mul_le_mul_left _ (Nat.le_of_lt hgv)
          have h2 := Nat.mul_le_mul_left (2 ^ 51) g6
          omega

/-- an expansion, from its greatest on -/
theorem dn_of_nov {l : List Int} {p : Nat} (h : nov p l) : dn l.reverse := by
  -- sums of what comes before
  have gen : ∀ (l : List Int) (p P : Nat) (done : List Int), nov p l → absSum done ≤ P → (∀ x r, l = x :: r → ∃ k : Nat, P < 2 ^ k ∧ (2 : Int) ^ k ∣ x) → dn done → dn (l.reverse ++ done) := by
    intro l
    induction l with
    | nil => intro p P done _ _ _ hd; exact hd
    | cons x r ih =>
      intro p P done hn hP hk hd
      obtain ⟨k, hk1, hk2⟩ := hk x r rfl
      rw [List.reverse_cons, List.append_assoc]
      refine ih x.natAbs (P + x.natAbs) (x :: done) hn.2.2 (by simp only [absSum]; omega) ?_ ⟨hn.1, ⟨k, hk2, by omega⟩, hd⟩
      intro y r' e
      subst e
      obtain ⟨j, hj1, hj2⟩ := hn.2.2.2.1
      refine ⟨j, ?_, hj2⟩
      -- x is a multiple of 2^k below 2^j, and P is below 2^k
      have hkj := dvd_lt hk2 hn.1 hj1
      obtain ⟨c, hc⟩ := hk2
      have e1 : x.natAbs = 2 ^ k * c.natAbs := by rw [hc, Int.natAbs_mul, natAbs_two_pow']
      have e2 : 2 ^ j = 2 ^ k * 2 ^ (j - k) := by rw [← Nat.pow_add, show k + (j - k) = j by omega]
      rw [e1, e2] at hj1
      have := Nat.lt_of_mul_lt_mul_left hj1
      have h2 : 2 ^ k * (c.natAbs + 1) ≤ 2 ^ k * 2 ^ (j - k) := Nat.mul_le_mul_left _ (by omega)
      rw [Nat.mul_add, Nat.mul_one] at h2
      rw [e1, e2]; omega
  have := gen l p 0 [] (nov_mono (Nat.zero_le p) h |> fun h' => nov_mono (Nat.le_refl _) h) (by simp [absSum]) ?_ trivial
  · rw [List.append_nil] at this; exact this
  · intro x r e
    subst e
    obtain ⟨k, hk1, hk2⟩ := h.2.1
    exact ⟨k, by omega, hk2⟩

/-- the neat form -/
def neatI (l : List Int) : List Int :=
  match l.reverse with
  | [] => []
  | q :: d => growGo (p1 q d).2 (p1 q d).1

/-- ALL OF THE NEAT FORM -/
theorem neat_all {l : List Int} {p : Nat} (h : nov p l) (hrep : ∀ y, y ∈ l → rep y) (hlen : l.length ≤ 2 ^ 10) :
    isum (neatI l) = isum l ∧ nov 0 (neatI l) ∧ (∀ y, y ∈ neatI l → y ≠ 0) ∧ (∀ y, y ∈ neatI l → rep y) ∧
    absSum (neatI l) ≤ 8 * (isum l).natAbs ∧ (∀ M, (isum l).natAbs < 2 ^ (M + 50) → (neatI l).length * 51 ≤ M + 204) ∧
    (∀ k : Nat, (∀ y, y ∈ l → (2 : Int) ^ k ∣ y) → ∀ y, y ∈ neatI l → (2 : Int) ^ k ∣ y) := by
  have hdn := dn_of_nov h
  have hsum := isum_reverse l
  have hmem : ∀ y, y ∈ l.reverse ↔ y ∈ l := fun y => List.mem_reverse
  have hl2 : l.reverse.length = l.length := List.length_reverse
  unfold neatI
  generalize l.reverse = d at *
  cases d with
  | nil =>
    simp only at *
    rw [← hsum]
    have hno : ∀ (P : Int → Prop) (y : Int), y ∈ ([] : List Int) → P y := fun P y hy => by cases hy
    exact ⟨rfl, trivial, hno _, hno _, by simp [absSum], fun M _ => by simp, fun k _ => hno _⟩
  | cons q d =>
    simp only at *
    have hq : rep q := hrep q ((hmem q).1 (List.mem_cons_self ..))
    have hd : ∀ y, y ∈ d → rep y := fun y hy => hrep y ((hmem y).1 (List.mem_cons_of_mem _ hy))
    have hrp := p1_rep d q hq hd
    have hs := p1_sum d q
    have hpl := p1_len d q
    have htop := p1_top d q hdn.2.1 hdn.2.2
    have hgs := growGo_sum (p1 q d).1 (p1 q d).2
    have hga := growGo_abs (p1 q d).2 (p1 q d).1 (by simp at hl2; omega)
    have hgl := growGo_len (p1 q d).1 (p1 q d).2
    have hisum : isum l = q + isum d := by rw [← hsum]; rfl
    have hnov : nov 0 (p1 q d).1 := by
      rcases htop with ⟨g1, _⟩ | ⟨gs, g, g1, _, _, g4, _⟩
      · rw [g1]; trivial
      · rw [g1]; exact g4
    refine ⟨by rw [hgs, hisum]; omega, growGo_nov _ 0 0 _ hrp.1 ⟨0, by simp, by simp, fun y _ => by simp⟩ hnov, growGo_nz _ _, growGo_rep _ _ hrp.1 hrp.2, ?_, ?_, ?_⟩
    · rw [hisum]
      generalize absSum (growGo (p1 q d).2 (p1 q d).1) = W at *
      rcases htop with ⟨g1, g2⟩ | ⟨gs, g, g1, g2, g3, g4, g5, g6⟩
      · rw [g1, g2] at hga; simp only [absSum] at hga; omega
      · rw [g1, absSum_append] at hga; simp only [absSum] at hga; omega
    · intro M hM
      rw [hisum] at hM
      rcases htop with ⟨g1, g2⟩ | ⟨gs, g, g1, g2, g3, g4, g5, g6⟩
      · rw [g1] at hgl ⊢; simp at hgl ⊢; omega
      · have h1 : 2 ^ (51 * gs.length) < 2 ^ (M + 51) := by
          have : 2 ^ (M + 51) = 2 * 2 ^ (M + 50) := by rw [show M + 51 = M + 50 + 1 by omega, Nat.pow_succ]; omega
          omega
        have h2 := (Nat.pow_lt_pow_iff_right (show 1 < 2 by omega)).1 h1
        rw [g1] at hgl ⊢
        simp only [List.length_append, List.length_cons, List.length_nil] at hgl
        omega
    · intro k hk
      have hqk : (2 : Int) ^ k ∣ q := hk q ((hmem q).1 (List.mem_cons_self ..))
      have hdk : ∀ y, y ∈ d → (2 : Int) ^ k ∣ y := fun y hy => hk y ((hmem y).1 (List.mem_cons_of_mem _ hy))
      have := p1_dvd k d q hqk hdk
      exact growGo_dvd k _ _ this.1 this.2

end Tvf

/- expand.grow: on words, and its walk. -/
namespace Go.Proofs.YthookkmgmholcaaGreatDoor
open Go.RowKit Tvf

theorem natAbs_le_of_near {a b : Int} {n : Nat} (h : (a - b).natAbs ≤ n) : a.natAbs ≤ b.natAbs + n := by omega

/-- what is not nought -/
def keepF (q : Nat) : List Nat := if fne q 0 then [q] else []
def gq : Nat → List Nat → Nat
  | q, [] => q
  | q, x :: r => gq (sumHi q x) r
def gout : Nat → List Nat → List Nat
  | _, [] => []
  | q, x :: r => keepF (sumLo q x) ++ gout (sumHi q x) r
def growW (b : Nat) (l : List Nat) : List Nat := gout b l ++ keepF (gq b l)

/-- every number on the way is neither infinite nor very great -/
def runOK : Nat → List Nat → Prop
  | q, [] => tame q
  | q, x :: r => tame q ∧ tame x ∧ runOK (sumHi q x) r

theorem gq_snoc (l : List Nat) (x : Nat) : ∀ q, gq q (l ++ [x]) = sumHi (gq q l) x := by
  induction l with
  | nil => intro q; rfl
  | cons y r ih => intro q; exact ih _
theorem gout_snoc (l : List Nat) (x : Nat) : ∀ q, gout q (l ++ [x]) = gout q l ++ keepF (sumLo (gq q l) x) := by
  induction l with
  | nil => intro q; simp [gout, gq]
  | cons y r ih => intro q; simp only [List.cons_append, gout, gq, ih, List.append_assoc]

theorem take_snoc' (l : List Nat) (k : Nat) (h : k < l.length) : l.take (k + 1) = l.take k ++ [l.getD k 0] := by
  rw [List.take_succ_eq_append_getElem h, List.getD_eq_getElem?_getD, List.getElem?_eq_getElem h]; rfl

theorem runOK_first {q : Nat} {l : List Nat} (h : runOK q l) : tame q := by cases l with | nil => exact h | cons x r => exact h.1

theorem runOK_at {l : List Nat} : ∀ {q : Nat}, runOK q l → ∀ k, k ≤ l.length → tame (gq q (l.take k)) ∧ (k < l.length → tame (l.getD k 0)) := by
  induction l with
  | nil => intro q h k hk; simp at hk; subst hk; exact ⟨h, fun h => by simp at h⟩
  | cons x r ih =>
    intro q h k hk
    cases k with
    | zero => exact ⟨h.1, fun _ => h.2.1⟩
    | succ k =>
      have := ih h.2.2 k (by simp at hk; omega)
      exact ⟨this.1, fun hh => this.2 (by simp at hh; omega)⟩

theorem gout_len (l : List Nat) : ∀ q, (gout q l).length ≤ l.length := by
  induction l with
  | nil => intro q; simp [gout]
  | cons x r ih =>
    intro q; unfold gout
    have := ih (sumHi q x)
    rw [List.length_append, List.length_cons]
    unfold keepF
    split <;> simp <;> omega

theorem fne_zero {x : Nat} (hx : fin x) : fne x 0 = decide (fval x ≠ 0) := by
  rw [fne_val hx (by unfold fin; omega)]; rfl

theorem keepF_vals {q : Nat} (hq : fin q) : (keepF q).map fval = (if fval q = 0 then [] else [fval q]) ∧ ∀ x, x ∈ keepF q → fin x := by
  unfold keepF
  rw [fne_zero hq]
  by_cases h : fval q = 0
  · simp [h]
  · simp [h, hq]

theorem growW_vals {l : List Nat} : ∀ {q : Nat}, runOK q l → (growW q l).map fval = growGo (fval q) (l.map fval) ∧ ∀ x, x ∈ growW q l → fin x := by
  induction l with
  | nil =>
    intro q h
    have := keepF_vals h.1
    exact ⟨this.1, this.2⟩
  | cons x r ih =>
    intro q h
    obtain ⟨_, _, _, _, _, s6, s7, s8⟩ := sum_fin h.1 h.2.1
    have := ih h.2.2
    unfold growW at this ⊢
    have hk := keepF_vals s6
    simp only [gout, gq, List.map_cons, growGo]
    rw [← s8, ← s7]
    by_cases h0 : fval (sumLo q x) = 0
    · rw [if_pos h0] at hk ⊢
      have hk1 : keepF (sumLo q x) = [] := by simpa using hk.1
      rw [hk1, List.nil_append]; exact this
    · rw [if_neg h0] at hk ⊢
      refine ⟨by rw [List.append_assoc, List.map_append, hk.1, this.1]; rfl, ?_⟩
      intro y hy
      rw [List.append_assoc] at hy
      rcases List.mem_append.1 hy with e | e
      · exact hk.2 y e
      · exact this.2 y e

theorem runOK_of (K : Nat) (hK : K + 11 ≤ unitE + 1000) (l : List Nat) : ∀ q, fin q → (∀ x, x ∈ l → fin x) → l.length ≤ 1024 → (fval q).natAbs + absSum (l.map fval) ≤ 2 ^ K * (2048 - l.length) → runOK q l := by
  have hbig : 2 ^ K * 2048 ≤ 2 ^ (unitE + 1000) := by
    have : 2 ^ K * 2 ^ 11 ≤ 2 ^ (unitE + 1000) := by rw [← Nat.pow_add]; exact Nat.pow_le_pow_right (by omega) hK
    exact this
  induction l with
  | nil =>
    intro q hq _ _ hb
    refine ⟨hq, ?_⟩
    simp only [List.map_nil, absSum, List.length_nil] at hb
    generalize 2 ^ K = P at *
    generalize 2 ^ (unitE + 1000) = T at *
    omega
  | cons x r ih =>
    intro q hq hl hlen hb
    have hx := hl x (List.mem_cons_self ..)
    simp only [List.map_cons, absSum, List.length_cons] at hb hlen
    have hle : 2 ^ K * (2048 - (r.length + 1)) ≤ 2 ^ K * 2048 := Nat.mul_le_mul_left _ (by omega)
    have tq : tame q := ⟨hq, by generalize 2 ^ (unitE + 1000) = T at *; omega⟩
    have tx : tame x := ⟨hx, by generalize 2 ^ (unitE + 1000) = T at *; omega⟩
    obtain ⟨s1, _, _, _, _, s6, s7, s8⟩ := sum_fin tq tx
    refine ⟨tq, tx, ih _ s1 (fun y hy => hl y (List.mem_cons_of_mem _ hy)) (by omega) ?_⟩
    rw [s7]
    have hr := rest_small (fval q + fval x)
    have e : 2 ^ K * (2048 - r.length) = 2 ^ K * (2048 - (r.length + 1)) + 2 ^ K := by
      rw [show 2048 - r.length = 2048 - (r.length + 1) + 1 by omega, Nat.mul_add, Nat.mul_one]
    rw [e]
    generalize 2 ^ K * (2048 - (r.length + 1)) = C at *
    generalize 2 ^ K = P at *
    generalize fval q = Q at *
    generalize fval x = X at *
    generalize absSum (r.map fval) = S at *
    clear ih hl s1 s6 s7 s8 tq tx hbig
    omega

/-! ### rows of floats of the call's own -/

theorem infoF : (Tryz.prog.info? 23).map (fun i => (i.zero, i.size, i.bytes)) = some (some (.float .f64 0), 1, 8) := by kernel_rfl

def OwnF (w : World) (base : Nat) (v : Value) (l : List Nat) : Prop := w.ownsRow base 23 1 v l.length (l.map (Value.float .f64))

theorem ownsRow_below {w w' : World} {base : Nat} {e : TypeId} {size : Nat} {v : Value} {n : Nat} {xs : List Value} (h : w.ownsRow base e size v n xs) (hb : Below w.heap.size w w') : w'.ownsRow base e size v n xs := by
  have hlt := h.lt
  obtain ⟨h1, h2 | ⟨g, cap, cur, e1, e2, e3, e4, e5, e6, e7⟩⟩ := h
  · exact ⟨h1, Or.inl h2⟩
  · refine ⟨h1, Or.inr ⟨g, cap, cur, e1, e2, ?_, e4, e5, e6, e7⟩⟩
    have := hlt g (by rw [e1]; rfl)
    rw [hb.block g this.2]; exact e3

theorem FSl_of_own {w : World} {base : Nat} {v : Value} {l : List Nat} (h : OwnF w base v l) (hl : l.length ≤ 4294967296) (h64 : ∀ x, x ∈ l → x < 2 ^ 64) : FSl w v l := by
  refine ⟨hl, h64, ?_⟩
  have hlt := World.ownsRow.lt h
  have hcells := fun {g : Nat} (hg : v.ownBlock = some g) => World.ownsRow.cells h hg
  obtain ⟨h1, ⟨h2, h3⟩ | ⟨g, cap, cur, e1, e2, e3, e4, e5, e6, e7⟩⟩ := h
  · left; exact ⟨h2, List.length_eq_zero_iff.1 h3⟩
  · right
    refine ⟨g, 0, cap, e1, (hlt g (by rw [e1]; rfl)).2, ?_⟩
    intro i hi
    have := hcells (g := g) (by rw [e1]; rfl) i (.float .f64 (l.getD i 0)) (by
      rw [List.getElem?_map, List.getElem?_eq_getElem hi, List.getD_eq_getElem?_getD, List.getElem?_eq_getElem hi]; rfl)
    rw [Nat.zero_add]
    by_cases h0 : i = 0
    · subst h0; simpa [Addr.add] using this
    · simpa [Addr.add, h0] using this

theorem float_oneCell (x : Nat) : ∀ u ∈ [Value.float .f64 x], u.oneCell' = true := by intro u hu; simp at hu; subst hu; rfl

set_option maxRecDepth 100000 in
set_option maxHeartbeats 1600000 in
theorem grow_walk (l : List Nat) (v : Value) (b : Nat) (hr : runOK b l) (hlen : l.length ≤ 1024) (w : World) (hv : FSl w v l) :
    Calls Tryz.prog 205 #[v, .float .f64 b] w fun e w' => ∃ v', e = .returned v' ∧ OwnF w' w.heap.size v' (growW b l) ∧ Below w.heap.size w w' := by
  obtain ⟨ad, cap, rfl, hcell⟩ := hv.form
  obtain ⟨i0, hi, hz0, hz1, hz2⟩ := info_parts infoF
  clear hv
  have HR : Hid (runOK b l) := hr
  have HC := Lib.hid hcell
  clear hr hcell
  go_enter Tryz.func205, Tryz.ntmps205
  go_wp2_with (at_make; refine wpList_make_own _ rfl _ _ 148 rfl w.heap.size 23 i0 (.float .f64 0) 1 Tryz.underlying148 hi hz0 hz1 _ _ _ (l.length + 1) rfl rfl ?c1 ?c2 ?c3 (Nat.le_refl _) ?_)
  case c1 => omega
  case c2 => rw [hz2]; omega
  case c3 => unfold maxLen; omega
  intro w0 hown0 hgrow0
  go_wp2
  have hb0 : Below w.heap.size w w0 := (Below.refl _ _).grown hgrow0 (Nat.le_refl _) (fun k hk => by cases hk)
  clear hgrow0
  go_loopw [5, 6, 17] (fun out q i wr => ∃ k : Nat, k ≤ l.length ∧ i = .int .i64 k ∧ q = .float .f64 (gq b (l.take k)) ∧ OwnF wr w.heap.size out (gout b (l.take k)) ∧ Below w.heap.size w wr) (fun _ _ i _ => l.length - (intOf i).toNat)
  case atStart => exact ⟨0, Nat.zero_le _, rfl, rfl, hown0, hb0⟩
  case round =>
    clear hown0 hb0
    obtain ⟨k, hk, rfl, rfl, hown, hbw⟩ := hrel
    by_cases hlt : k < l.length
    · obtain ⟨bb, off, rfl, hbb, hc⟩ := HC.out (by omega)
      have hck := hc k hlt
      have hck : wr.cell? ⟨bb, off + k, none⟩ = some (.float .f64 (l.getD k 0)) := (hbw.cell (p := ⟨bb, off + k, none⟩) hbb).trans hck
      have hR := runOK_at HR (k + 1) (by omega)
      have hRk := runOK_at HR k (by omega)
      have hgq := gq_snoc (l.take k) (l.getD k 0) b
      have hgo := gout_snoc (l.take k) (l.getD k 0) b
      rw [← take_snoc' l k hlt] at hgq hgo
      have HS := Lib.hid (sum_walk (gq b (l.take k)) (l.getD k 0) hRk.1 (hRk.2 hlt))
      have hll := gout_len (l.take k) b
      have hll2 : (l.take k).length = k := by rw [List.length_take]; omega
      have HQ := Lib.hid hgq
      have HO := Lib.hid hgo
      have HL : Hid ((gout b (l.take k)).length ≤ k) := by unfold Hid; omega
      clear hc hR hRk hgq hgo hll hll2
      generalize l.getD k 0 = x at *
      generalize gq b (l.take k) = q at *
      generalize gout b (l.take k) = o at *
      cases hne : fne (sumLo q x) 0
      · have hkp : Hid (keepF (sumLo q x) = []) := by unfold Hid keepF; rw [hne]; rfl
        go_wp2_with (go_at_call 194; refine (HS.out _).mono ?_; rintro e w1 ⟨rfl, hb1⟩)
        go_roundw
        case rel => exact ⟨k + 1, by omega, by go_num, by rw [HQ.out], by rw [HO.out, hkp.out, List.append_nil]; exact ownsRow_below hown hb1, hbw.trans (hb1.mono hbw.size)⟩
        case measure => simp [intOf]; omega
      · have hkp : Hid (keepF (sumLo q x) = [sumLo q x]) := by unfold Hid keepF; rw [hne]; rfl
        go_wp2_with (first
          | (go_at_call 194; refine (HS.out _).mono ?_; rintro e w1 ⟨rfl, hb1⟩; have hown1 := ownsRow_below hown hb1; clear hown)
          | (at_builtin; refine wpList_append_own _ rfl _ _ 148 rfl w.heap.size 23 i0 (.float .f64 0) 1 8 Tryz.underlying148 hi hz0 hz1 hz2 rfl (by decide) _ _ _ rfl (hown1.alloc _) ⟨w1.heap.size, 0, none⟩ 1 1 [.float .f64 (sumLo q x)] rfl rfl ?c1 ?c2 ?c3 ?c4 ?c5 ?_))
        case c1 =>
          intro j u hj
          match j, hj with
          | 0, hj => simp at hj; subst hj; simp [Addr.add]
        case c2 => exact float_oneCell _
        case c3 => have := HL.out; unfold maxLen; omega
        case c4 => have := HL.out; omega
        case c5 => have := hbw.size; have := hb1.size; simp; omega
        intro v' w2 hown2 hgrow2 _
        have hlt1 := World.ownsRow.lt hown1
        have hbw2 : Below w.heap.size w w2 := ((hbw.trans (hb1.mono hbw.size)).alloc (by have := hbw.size; have := hb1.size; omega) _).grown hgrow2 (by have := hbw.size; have := hb1.size; simp; omega) (fun kk hkk => (hlt1 kk hkk).1)
        have hown3 : OwnF w2 w.heap.size v' (o ++ [sumLo q x]) := by unfold OwnF; rw [List.length_append, List.map_append]; exact hown2
        clear hown2 hgrow2 hown1 hlt1 hb1 hck
        go_wp2
        go_roundw
        case rel => exact ⟨k + 1, by omega, by go_num, by rw [HQ.out], by rw [HO.out, hkp.out]; exact hown3, hbw2⟩
        case measure => simp [intOf]; omega
    · have hkl : k = l.length := by omega
      have htk : l.take k = l := List.take_of_length_le (by omega)
      rw [htk] at hown
      rw [htk]
      have hgl := gout_len l b
      have HL : Hid ((gout b l).length ≤ l.length) := hgl
      have HD : Hid (growW b l = gout b l ++ keepF (gq b l)) := rfl
      clear hkl htk hgl
      generalize gq b l = q at *
      generalize gout b l = o at *
      cases hne : fne q 0
      · have hkp : Hid (keepF q = []) := by unfold Hid keepF; rw [hne]; rfl
        go_wp2
        go_ret
        exact ⟨_, rfl, by rw [HD.out, hkp.out, List.append_nil]; exact hown, hbw⟩
      · have hkp : Hid (keepF q = [q]) := by unfold Hid keepF; rw [hne]; rfl
        go_wp2_with (at_builtin; refine wpList_append_own _ rfl _ _ 148 rfl w.heap.size 23 i0 (.float .f64 0) 1 8 Tryz.underlying148 hi hz0 hz1 hz2 rfl (by decide) _ _ _ rfl (hown.alloc _) ⟨wr.heap.size, 0, none⟩ 1 1 [.float .f64 q] rfl rfl ?c1 ?c2 ?c3 ?c4 ?c5 ?_)
        case c1 =>
          intro j u hj
          match j, hj with
          | 0, hj => simp at hj; subst hj; simp [Addr.add]
        case c2 => exact float_oneCell _
        case c3 => have := HL.out; unfold maxLen; omega
        case c4 => have := HL.out; omega
        case c5 => have := hbw.size; simp; omega
        intro v' w2 hown2 hgrow2 _
        have hlt1 := World.ownsRow.lt hown
        have hbw2 : Below w.heap.size w w2 := (hbw.alloc hbw.size _).grown hgrow2 (by have := hbw.size; simp; omega) (fun kk hkk => (hlt1 kk hkk).1)
        have hown3 : OwnF w2 w.heap.size v' (o ++ [q]) := by unfold OwnF; rw [List.length_append, List.map_append]; exact hown2
        clear hown2 hgrow2 hlt1
        go_wp2
        go_ret
        exact ⟨_, rfl, by rw [HD.out, hkp.out]; exact hown3, hbw2⟩

end Go.Proofs.YthookkmgmholcaaGreatDoor

/- expand.neat: on words, and its walk. -/
namespace Go.Proofs.YthookkmgmholcaaGreatDoor
open Go.RowKit Tvf

/-- the first pass, from the greatest on -/
def st1 : Nat → List Nat → List Nat × Nat
  | q, [] => ([], q)
  | q, x :: r => if fne (sumLo q x) 0 then (sumHi q x :: (st1 (sumLo q x) r).1, (st1 (sumLo q x) r).2) else st1 (sumHi q x) r

theorem st1_snoc (l : List Nat) (x : Nat) : ∀ q, st1 q (l ++ [x]) = if fne (sumLo (st1 q l).2 x) 0 then ((st1 q l).1 ++ [sumHi (st1 q l).2 x], sumLo (st1 q l).2 x) else ((st1 q l).1, sumHi (st1 q l).2 x) := by
  induction l with
  | nil => intro q; simp only [List.nil_append, st1]; rfl
  | cons y r ih =>
    intro q
    simp only [List.cons_append, st1]
    split
    · rw [ih]; split <;> rfl
    · rw [ih]

def run1 : Nat → List Nat → Prop
  | q, [] => tame q
  | q, x :: r => tame q ∧ tame x ∧ run1 (if fne (sumLo q x) 0 then sumLo q x else sumHi q x) r

theorem run1_at {l : List Nat} : ∀ {q : Nat}, run1 q l → ∀ k, k ≤ l.length → tame (st1 q (l.take k)).2 ∧ (k < l.length → tame (l.getD k 0)) := by
  induction l with
  | nil => intro q h k hk; simp at hk; subst hk; exact ⟨h, fun h => by simp at h⟩
  | cons x r ih =>
    intro q h k hk
    cases k with
    | zero => exact ⟨h.1, fun _ => h.2.1⟩
    | succ k =>
      have := ih h.2.2 k (by simp at hk; omega)
      refine ⟨?_, fun hh => this.2 (by simp at hh; omega)⟩
      simp only [List.take_succ_cons, st1]
      split
      · rename_i hc; rw [if_pos hc] at this; exact this.1
      · rename_i hc; rw [if_neg hc] at this; exact this.1

theorem st1_len (l : List Nat) : ∀ q, (st1 q l).1.length ≤ l.length := by
  induction l with
  | nil => intro q; simp [st1]
  | cons x r ih =>
    intro q; unfold st1
    split
    · have := ih (sumLo q x); simp only [List.length_cons]; omega
    · have := ih (sumHi q x); simp only [List.length_cons]; omega

theorem st1_vals {l : List Nat} : ∀ {q : Nat}, run1 q l → ((st1 q l).1.map fval).reverse = (p1 (fval q) (l.map fval)).1 ∧ fval (st1 q l).2 = (p1 (fval q) (l.map fval)).2 ∧ fin (st1 q l).2 ∧ ∀ x, x ∈ (st1 q l).1 → fin x := by
  induction l with
  | nil => intro q h; exact ⟨rfl, rfl, h.1, fun x hx => by cases hx⟩
  | cons x r ih =>
    intro q h
    obtain ⟨s1, _, _, _, _, s6, s7, s8⟩ := sum_fin h.1 h.2.1
    have hi := h.2.2
    simp only [List.map_cons, st1, p1]
    rw [← s8, ← s7]
    rw [fne_zero s6] at hi ⊢
    by_cases h0 : fval (sumLo q x) = 0
    · have hd : decide (fval (sumLo q x) ≠ 0) = false := by simpa using h0
      rw [if_pos h0, hd]
      rw [hd] at hi
      exact ih hi
    · have hd : decide (fval (sumLo q x) ≠ 0) = true := by simpa using h0
      rw [if_neg h0, hd, if_pos rfl]
      rw [hd, if_pos rfl] at hi
      have := ih hi
      refine ⟨by simp only [List.map_cons, List.reverse_cons, this.1], this.2.1, this.2.2.1, ?_⟩
      intro y hy
      rcases List.mem_cons.1 hy with e | e
      · rw [e]; exact s1
      · exact this.2.2.2 y e

theorem run1_of (K : Nat) (hK : K + 11 ≤ unitE + 1000) (l : List Nat) : ∀ q, fin q → (∀ x, x ∈ l → fin x) → l.length ≤ 1024 → (fval q).natAbs + absSum (l.map fval) ≤ 2 ^ K * (2048 - l.length) → run1 q l := by
  have hbig : 2 ^ K * 2048 ≤ 2 ^ (unitE + 1000) := by
    have : 2 ^ K * 2 ^ 11 ≤ 2 ^ (unitE + 1000) := by rw [← Nat.pow_add]; exact Nat.pow_le_pow_right (by omega) hK
    exact this
  induction l with
  | nil =>
    intro q hq _ _ hb
    refine ⟨hq, ?_⟩
    simp only [List.map_nil, absSum, List.length_nil] at hb
    generalize 2 ^ K = P at *
    generalize 2 ^ (unitE + 1000) = T at *
    omega
  | cons x r ih =>
    intro q hq hl hlen hb
    have hx := hl x (List.mem_cons_self ..)
    simp only [List.map_cons, absSum, List.length_cons] at hb hlen
    have hle : 2 ^ K * (2048 - (r.length + 1)) ≤ 2 ^ K * 2048 := Nat.mul_le_mul_left _ (by omega)
    have tq : tame q := ⟨hq, by generalize 2 ^ (unitE + 1000) = T at *; omega⟩
    have tx : tame x := ⟨hx, by generalize 2 ^ (unitE + 1000) = T at *; omega⟩
    obtain ⟨s1, _, _, _, _, s6, s7, s8⟩ := sum_fin tq tx
    have hr := rest_small (fval q + fval x)
    have e : 2 ^ K * (2048 - r.length) = 2 ^ K * (2048 - (r.length + 1)) + 2 ^ K := by
      rw [show 2048 - r.length = 2048 - (r.length + 1) + 1 by omega, Nat.mul_add, Nat.mul_one]
    have hr' : ∀ y, y ∈ r → fin y := fun y hy => hl y (List.mem_cons_of_mem _ hy)
    refine ⟨tq, tx, ?_⟩
    split
    · refine ih _ s6 hr' (by omega) ?_
      rw [s8, e]
      generalize 2 ^ K * (2048 - (r.length + 1)) = C at *
      generalize 2 ^ K = P at *
      generalize fval q = Q at *
      generalize fval x = X at *
      generalize absSum (r.map fval) = S at *
      clear ih hl s1 s6 s7 s8 tq tx hbig
      omega
    · refine ih _ s1 hr' (by omega) ?_
      rw [s7, e]
      generalize 2 ^ K * (2048 - (r.length + 1)) = C at *
      generalize 2 ^ K = P at *
      generalize fval q = Q at *
      generalize fval x = X at *
      generalize absSum (r.map fval) = S at *
      clear ih hl s1 s6 s7 s8 tq tx hbig
      omega

/-- the second pass: growing, the addends turned about -/
def gqS : Nat → List Nat → Nat
  | q, [] => q
  | q, x :: r => gqS (sumHi x q) r
def goutS : Nat → List Nat → List Nat
  | _, [] => []
  | q, x :: r => keepF (sumLo x q) ++ goutS (sumHi x q) r
def growS (b : Nat) (l : List Nat) : List Nat := goutS b l ++ keepF (gqS b l)
def runS : Nat → List Nat → Prop
  | q, [] => tame q
  | q, x :: r => tame q ∧ tame x ∧ runS (sumHi x q) r

theorem gqS_snoc (l : List Nat) (x : Nat) : ∀ q, gqS q (l ++ [x]) = sumHi x (gqS q l) := by
  induction l with
  | nil => intro q; rfl
  | cons y r ih => intro q; exact ih _
theorem goutS_snoc (l : List Nat) (x : Nat) : ∀ q, goutS q (l ++ [x]) = goutS q l ++ keepF (sumLo x (gqS q l)) := by
  induction l with
  | nil => intro q; simp [goutS, gqS]
  | cons y r ih => intro q; simp only [List.cons_append, goutS, gqS, ih, List.append_assoc]
theorem goutS_len (l : List Nat) : ∀ q, (goutS q l).length ≤ l.length := by
  induction l with
  | nil => intro q; simp [goutS]
  | cons x r ih =>
    intro q; unfold goutS
    have := ih (sumHi x q)
    rw [List.length_append, List.length_cons]
    unfold keepF
    split <;> simp <;> omega
theorem runS_at {l : List Nat} : ∀ {q : Nat}, runS q l → ∀ k, k ≤ l.length → tame (gqS q (l.take k)) ∧ (k < l.length → tame (l.getD k 0)) := by
  induction l with
  | nil => intro q h k hk; simp at hk; subst hk; exact ⟨h, fun h => by simp at h⟩
  | cons x r ih =>
    intro q h k hk
    cases k with
    | zero => exact ⟨h.1, fun _ => h.2.1⟩
    | succ k =>
      have := ih h.2.2 k (by simp at hk; omega)
      exact ⟨this.1, fun hh => this.2 (by simp at hh; omega)⟩

theorem growS_vals {l : List Nat} : ∀ {q : Nat}, runS q l → (growS q l).map fval = growGo (fval q) (l.map fval) ∧ ∀ x, x ∈ growS q l → fin x := by
  induction l with
  | nil =>
    intro q h
    have := keepF_vals h.1
    exact ⟨this.1, this.2⟩
  | cons x r ih =>
    intro q h
    obtain ⟨_, _, _, _, _, s6, s7, s8⟩ := sum_fin h.2.1 h.1
    have := ih h.2.2
    unfold growS at this ⊢
    have hk := keepF_vals s6
    simp only [goutS, gqS, List.map_cons, growGo]
    rw [show fval q + fval x = fval x + fval q by omega, ← s8, ← s7]
    by_cases h0 : fval (sumLo x q) = 0
    · rw [if_pos h0] at hk ⊢
      have hk1 : keepF (sumLo x q) = [] := by simpa using hk.1
      rw [hk1, List.nil_append]; exact this
    · rw [if_neg h0] at hk ⊢
      refine ⟨by rw [List.append_assoc, List.map_append, hk.1, this.1]; rfl, ?_⟩
      intro y hy
      rw [List.append_assoc] at hy
      rcases List.mem_append.1 hy with e | e
      · exact hk.2 y e
      · exact this.2 y e

theorem runS_of (K : Nat) (hK : K + 11 ≤ unitE + 1000) (l : List Nat) : ∀ q, fin q → (∀ x, x ∈ l → fin x) → l.length ≤ 1024 → (fval q).natAbs + absSum (l.map fval) ≤ 2 ^ K * (2048 - l.length) → runS q l := by
  have hbig : 2 ^ K * 2048 ≤ 2 ^ (unitE + 1000) := by
    have : 2 ^ K * 2 ^ 11 ≤ 2 ^ (unitE + 1000) := by rw [← Nat.pow_add]; exact Nat.pow_le_pow_right (by omega) hK
    exact this
  induction l with
  | nil =>
    intro q hq _ _ hb
    refine ⟨hq, ?_⟩
    simp only [List.map_nil, absSum, List.length_nil] at hb
    generalize 2 ^ K = P at *
    generalize 2 ^ (unitE + 1000) = T at *
    omega
  | cons x r ih =>
    intro q hq hl hlen hb
    have hx := hl x (List.mem_cons_self ..)
    simp only [List.map_cons, absSum, List.length_cons] at hb hlen
    have hle : 2 ^ K * (2048 - (r.length + 1)) ≤ 2 ^ K * 2048 := Nat.mul_le_mul_left _ (by omega)
    have tq : tame q := ⟨hq, by generalize 2 ^ (unitE + 1000) = T at *; omega⟩
    have tx : tame x := ⟨hx, by generalize 2 ^ (unitE + 1000) = T at *; omega⟩
    obtain ⟨s1, _, _, _, _, s6, s7, s8⟩ := sum_fin tx tq
    refine ⟨tq, tx, ih _ s1 (fun y hy => hl y (List.mem_cons_of_mem _ hy)) (by omega) ?_⟩
    rw [s7]
    have hr := rest_small (fval x + fval q)
    have e : 2 ^ K * (2048 - r.length) = 2 ^ K * (2048 - (r.length + 1)) + 2 ^ K := by
      rw [show 2048 - r.length = 2048 - (r.length + 1) + 1 by omega, Nat.mul_add, Nat.mul_one]
    rw [e]
    generalize 2 ^ K * (2048 - (r.length + 1)) = C at *
    generalize 2 ^ K = P at *
    generalize fval q = Q at *
    generalize fval x = X at *
    generalize absSum (r.map fval) = S at *
    clear ih hl s1 s6 s7 s8 tq tx hbig
    omega

/-- the neat form, on words -/
def neatW (l : List Nat) : List Nat :=
  match l.reverse with
  | [] => []
  | q :: d => growS (st1 q d).2 (st1 q d).1.reverse

/-- all on the way is tame -/
def runN (l : List Nat) : Prop :=
  match l.reverse with
  | [] => True
  | q :: d => run1 q d ∧ runS (st1 q d).2 (st1 q d).1.reverse

theorem neatW_vals {l : List Nat} (h : runN l) : (neatW l).map fval = neatI (l.map fval) ∧ ∀ x, x ∈ neatW l → fin x := by
  unfold runN at h
  unfold neatW neatI
  rw [← List.map_reverse]
  generalize l.reverse = d at *
  cases d with
  | nil => exact ⟨rfl, fun x hx => by cases hx⟩
  | cons q d =>
    simp only [List.map_cons] at *
    obtain ⟨a1, a2, a3, a4⟩ := st1_vals h.1
    have := growS_vals h.2
    rw [List.map_reverse, a1, a2] at this
    exact this

theorem runN_of (K : Nat) (hK : K + 11 ≤ unitE + 1000) (l : List Nat) (hf : ∀ x, x ∈ l → fin x) (hn : nov 0 (l.map fval)) (hlen : l.length ≤ 1000) (hb : absSum (l.map fval) ≤ 2 ^ K * 300) : runN l := by
  have hdn := dn_of_nov hn
  rw [← List.map_reverse] at hdn
  have hmem : ∀ y, y ∈ l.reverse ↔ y ∈ l := fun y => List.mem_reverse
  have hl2 : l.reverse.length = l.length := List.length_reverse
  have hab : absSum (l.reverse.map fval) = absSum (l.map fval) := by
    have gen : ∀ a : List Int, absSum a.reverse = absSum a := by
      intro a
      induction a with
      | nil => rfl
      | cons x r ih => rw [List.reverse_cons, absSum_append, ih]; simp only [absSum]; omega
    rw [List.map_reverse, gen]
  unfold runN
  generalize l.reverse = d at *
  cases d with
  | nil => trivial
  | cons q d =>
    simp only [List.map_cons, absSum, List.length_cons] at *
    have hq : fin q := hf q ((hmem q).1 (List.mem_cons_self ..))
    have hd : ∀ y, y ∈ d → fin y := fun y hy => hf y ((hmem y).1 (List.mem_cons_of_mem _ hy))
    have hle : 2 ^ K * 300 ≤ 2 ^ K * (2048 - d.length) := Nat.mul_le_mul_left _ (by omega)
    have r1 := run1_of K hK d q hq hd (by omega) (by omega)
    obtain ⟨a1, a2, a3, a4⟩ := st1_vals r1
    refine ⟨r1, runS_of K hK _ _ a3 (fun x hx => a4 x (by simpa using hx)) (by have := st1_len d q; rw [List.length_reverse]; omega) ?_⟩
    have htop := p1_top (d.map fval) (fval q) hdn.2.1 hdn.2.2
    have hlen1 := st1_len d q
    have hle2 : 2 ^ K * 1024 ≤ 2 ^ K * (2048 - (st1 q d).1.reverse.length) := Nat.mul_le_mul_left _ (by rw [List.length_reverse]; omega)
    rw [List.map_reverse, a1, a2]
    have hT := isum_le (d.map fval)
    refine Nat.le_trans ?_ hle2
    rcases htop with ⟨g1, g2⟩ | ⟨gs, g, g1, g2, g3, g4, g5, g6⟩
    · rw [g1, g2]; simp only [absSum]
      generalize 2 ^ K = P at *
      omega
    · rw [g1, absSum_append]; simp only [absSum]
      generalize 2 ^ K = P at *
      generalize absSum gs = A at *
      generalize (p1 (fval q) (d.map fval)).2 = F at *
      generalize isum (d.map fval) = T at *
      omega

end Go.Proofs.YthookkmgmholcaaGreatDoor

/- The walk of expand.neat. -/
namespace Go.Proofs.YthookkmgmholcaaGreatDoor
open Go.RowKit Tvf

/-- of a list that is not empty: its last, and the others from behind -/
theorem rev_parts (l : List Nat) (h : 0 < l.length) : ∃ d, l.reverse = l.getD (l.length - 1) 0 :: d ∧ d.length = l.length - 1 ∧ ∀ c, c < d.length → d.getD c 0 = l.getD (l.length - 2 - c) 0 := by
  have hr : ∀ i, i < l.length → l.reverse.getD i 0 = l.getD (l.length - 1 - i) 0 := by
    intro i hi
    rw [List.getD_eq_getElem?_getD, List.getElem?_reverse hi, ← List.getD_eq_getElem?_getD]
  have hlen : l.reverse.length = l.length := List.length_reverse
  cases hd : l.reverse with
  | nil => rw [hd] at hlen; simp at hlen; omega
  | cons q d =>
    rw [hd] at hr hlen
    simp only [List.length_cons] at hlen
    refine ⟨d, ?_, by omega, ?_⟩
    · have := hr 0 h
      simp at this
      rw [this]; simp
    · intro c hc
      have := hr (c + 1) (by omega)
      rw [show l.length - 1 - (c + 1) = l.length - 2 - c by omega] at this
      rw [← this]; rfl

theorem getD_rev (l : List Nat) (i : Nat) (h : i < l.length) : l.reverse.getD i 0 = l.getD (l.length - 1 - i) 0 := by
  rw [List.getD_eq_getElem?_getD, List.getElem?_reverse h, ← List.getD_eq_getElem?_getD]

theorem OwnF.cell {w : World} {base : Nat} {v : Value} {l : List Nat} (h : OwnF w base v l) : ∃ ad cap, v = .slice ad l.length cap ∧ (0 < l.length → ∃ b : Nat, ad = some ⟨b, 0, none⟩ ∧ base ≤ b ∧ b < w.heap.size ∧ ∀ i, i < l.length → w.cell? ⟨b, i, none⟩ = some (.float .f64 (l.getD i 0))) := by
  have hlt := World.ownsRow.lt h
  have hcells := fun {g : Nat} (hg : v.ownBlock = some g) => World.ownsRow.cells h hg
  obtain ⟨h1, ⟨h2, h3⟩ | ⟨g, cap, cur, e1, e2, e3, e4, e5, e6, e7⟩⟩ := h
  · exact ⟨none, 0, by rw [h2, h3], fun h => by omega⟩
  · refine ⟨_, cap, e1, fun _ => ⟨g, rfl, e2, (hlt g (by rw [e1]; rfl)).2, ?_⟩⟩
    intro i hi
    have := hcells (g := g) (by rw [e1]; rfl) i (.float .f64 (l.getD i 0)) (by
      rw [List.getElem?_map, List.getElem?_eq_getElem hi, List.getD_eq_getElem?_getD, List.getElem?_eq_getElem hi]; rfl)
    by_cases h0 : i = 0
    · subst h0; simpa [Addr.add] using this
    · simpa [Addr.add, h0] using this

theorem ownsRow_base {w : World} {base base' : Nat} {e : TypeId} {size : Nat} {v : Value} {n : Nat} {xs : List Value} (h : w.ownsRow base e size v n xs) (hb : base' ≤ base) : w.ownsRow base' e size v n xs := by
  obtain ⟨h1, h2 | ⟨g, cap, cur, e1, e2, e3⟩⟩ := h
  · exact ⟨h1, Or.inl h2⟩
  · exact ⟨h1, Or.inr ⟨g, cap, cur, e1, Nat.le_trans hb e2, e3⟩⟩

set_option maxRecDepth 100000 in
set_option maxHeartbeats 400000 in
theorem neat_nil (ad : Option Addr) (cap : Nat) (w : World) :
    Calls Tryz.prog 207 #[.slice ad 0 cap] w fun e w' => ∃ v', e = .returned v' ∧ OwnF w' w.heap.size v' [] ∧ Below w.heap.size w w' := by
  go_enter Tryz.func207, Tryz.ntmps207
  go_wp2
  go_ret
  exact ⟨_, rfl, World.ownsRow_nil _ _ _ _, Below.refl _ _⟩

set_option maxRecDepth 100000 in
set_option maxHeartbeats 2000000 in
theorem neat_some (l : List Nat) (ad : Option Addr) (cap : Nat) (hr : runN l) (hlen : l.length ≤ 1024) (h0 : 0 < l.length) (w : World)
    (hcell : ∃ b off : Nat, ad = some ⟨b, off, none⟩ ∧ b < w.heap.size ∧ ∀ i, i < l.length → w.cell? ⟨b, off + i, none⟩ = some (.float .f64 (l.getD i 0))) :
    Calls Tryz.prog 207 #[.slice ad l.length cap] w fun e w' => ∃ v', e = .returned v' ∧ OwnF w' w.heap.size v' (neatW l) ∧ Below w.heap.size w w' := by
  obtain ⟨bb, off, rfl, hbb, hc⟩ := hcell
  obtain ⟨i0, hi, hz0, hz1, hz2⟩ := info_parts infoF
  obtain ⟨d, hd, hdl, hdg⟩ := rev_parts l h0
  have HN : Hid (neatW l = growS (st1 (l.getD (l.length - 1) 0) d).2 (st1 (l.getD (l.length - 1) 0) d).1.reverse) := by unfold Hid neatW; rw [hd]
  have HR : Hid (run1 (l.getD (l.length - 1) 0) d ∧ runS (st1 (l.getD (l.length - 1) 0) d).2 (st1 (l.getD (l.length - 1) 0) d).1.reverse) := by
    unfold runN at hr; rw [hd] at hr; exact hr
  have HC := Lib.hid hc
  have hlast := hc (l.length - 1) (by omega)
  have HDG := Lib.hid hdg
  have HDL := Lib.hid hdl
  have hl1 : ((l.length : Int) == 0) = false := by rw [beq_eq_false_iff_ne]; omega
  have hi1 : ((l.length : Int) - 1).toNat = l.length - 1 := by omega
  clear hr hc hd hdg hdl
  generalize l.getD (l.length - 1) 0 = q0 at *
  go_enter Tryz.func207, Tryz.ntmps207
  go_wp2_with (at_make; refine wpList_make_own _ rfl _ _ 148 rfl w.heap.size 23 i0 (.float .f64 0) 1 Tryz.underlying148 hi hz0 hz1 _ _ _ l.length rfl rfl ?c1 ?c2 ?c3 (Nat.le_refl _) ?_)
  case c1 => omega
  case c2 => rw [hz2]; omega
  case c3 => unfold maxLen; omega
  intro w0 hown0 hgrow0
  have hb0 : Below w.heap.size w w0 := (Below.refl _ _).grown hgrow0 (Nat.le_refl _) (fun k hk => by cases hk)
  clear hgrow0
  have hlast0 : w0.cell? ⟨bb, off + (l.length - 1), none⟩ = some (.float .f64 q0) := (hb0.cell (p := ⟨bb, off + (l.length - 1), none⟩) hbb).trans hlast
  clear hlast
  go_wp2
  go_loopw [3, 4, 5] (fun g q i wr => ∃ c : Nat, c ≤ d.length ∧ i = .int .i64 ((l.length : Int) - 2 - c) ∧ q = .float .f64 (st1 q0 (d.take c)).2 ∧ OwnF wr w.heap.size g (st1 q0 (d.take c)).1 ∧ Below w.heap.size w wr) (fun _ _ i _ => (intOf i + 1).toNat)
  case atStart => exact ⟨0, Nat.zero_le _, by go_num, rfl, hown0, hb0⟩
  case round =>
    clear hown0 hb0 hlast0
    obtain ⟨c, hk, rfl, rfl, hown, hbw⟩ := hrel
    have HDL2 := HDL.out
    by_cases hlt : c < d.length
    · have hck : wr.cell? ⟨bb, off + (l.length - 2 - c), none⟩ = some (.float .f64 (d.getD c 0)) := by
        rw [HDG.out c hlt]
        exact (hbw.cell (p := ⟨bb, off + (l.length - 2 - c), none⟩) hbb).trans (HC.out _ (by omega))
      have hi2 : ((l.length : Int) - 2 - c).toNat = l.length - 2 - c := by omega
      have hge : (0 : Int) ≤ (l.length : Int) - 2 - c := by omega
      have hltn : l.length - 2 - c < l.length := by omega
      have hRk := run1_at HR.1 c (by omega)
      have hst := st1_snoc (d.take c) (d.getD c 0) q0
      rw [← take_snoc' d c hlt] at hst
      have HS := Lib.hid (sum_walk (st1 q0 (d.take c)).2 (d.getD c 0) hRk.1 (hRk.2 hlt))
      have hll := st1_len (d.take c) q0
      have hll2 : (d.take c).length = c := by rw [List.length_take]; omega
      have HST := Lib.hid hst
      have HL : Hid ((st1 q0 (d.take c)).1.length ≤ c) := by unfold Hid; omega
      have HDL3 : Hid (d.length = l.length - 1) := HDL
      have hcl : (c : Int) + 2 ≤ l.length := by omega
      clear hRk hst hll hll2 HDL2
      generalize d.getD c 0 = x at *
      generalize (st1 q0 (d.take c)).2 = q at *
      generalize (st1 q0 (d.take c)).1 = o at *
      cases hne : fne (sumLo q x) 0
      · rw [hne] at HST
        go_wp2_with (go_at_call 194; refine (HS.out _).mono ?_; rintro e w1 ⟨rfl, hb1⟩)
        go_roundw
        case rel => exact ⟨c + 1, by omega, by go_num, by rw [HST.out]; rfl, by rw [HST.out]; exact ownsRow_below hown hb1, hbw.trans (hb1.mono hbw.size)⟩
        case measure => simp [intOf]; omega
      · rw [hne] at HST
        go_wp2_with (first
          | (go_at_call 194; refine (HS.out _).mono ?_; rintro e w1 ⟨rfl, hb1⟩; have hown1 := ownsRow_below hown hb1; clear hown)
          | (at_builtin; refine wpList_append_own _ rfl _ _ 148 rfl w.heap.size 23 i0 (.float .f64 0) 1 8 Tryz.underlying148 hi hz0 hz1 hz2 rfl (by decide) _ _ _ rfl (hown1.alloc _) ⟨w1.heap.size, 0, none⟩ 1 1 [.float .f64 (sumHi q x)] rfl rfl ?c1 ?c2 ?c3 ?c4 ?c5 ?_))
        case c1 =>
          intro j u hj
          match j, hj with
          | 0, hj => simp at hj; subst hj; simp [Addr.add]
        case c2 => exact float_oneCell _
        case c3 => have := HL.out; unfold maxLen; omega
        case c4 => have := HL.out; omega
        case c5 => have := hbw.size; have := hb1.size; simp; omega
        intro v' w2 hown2 hgrow2 _
        have hlt1 := World.ownsRow.lt hown1
        have hbw2 : Below w.heap.size w w2 := ((hbw.trans (hb1.mono hbw.size)).alloc (by have := hbw.size; have := hb1.size; omega) _).grown hgrow2 (by have := hbw.size; have := hb1.size; simp; omega) (fun kk hkk => (hlt1 kk hkk).1)
        have hown3 : OwnF w2 w.heap.size v' (o ++ [sumHi q x]) := by unfold OwnF; rw [List.length_append, List.map_append]; exact hown2
        clear hown2 hgrow2 hown1 hlt1 hb1 hck
        go_wp2
        go_roundw
        case rel => exact ⟨c + 1, by omega, by go_num, by rw [HST.out]; rfl, by rw [HST.out]; exact hown3, hbw2⟩
        case measure => simp [intOf]; omega
    · have hcl : c = d.length := by omega
      have htk : d.take c = d := List.take_of_length_le (by omega)
      rw [htk] at hown
      rw [htk]
      have hgl := st1_len d q0
      have HRS : Hid (runS (st1 q0 d).2 (st1 q0 d).1.reverse) := HR.2
      have HLg : Hid ((st1 q0 d).1.length ≤ l.length) := by unfold Hid; omega
      have hneg : (l.length : Int) - 2 - c < 0 := by omega
      have hll1024 : Hid (l.length ≤ 1024) := hlen
      clear hcl htk hgl HR HC HDG HDL HDL2 hlt hk hlen hi1 hl1
      generalize (st1 q0 d).2 = q1 at *
      generalize (st1 q0 d).1 = g at *
      obtain ⟨gad, gcap, rfl, hgc⟩ := OwnF.cell hown
      have HGC := Lib.hid hgc
      have hgle := HLg.out
      have hl1k := hll1024.out
      clear hgc hown
      go_wp2
      obtain ⟨wo, rfl⟩ : ∃ wo : World, wo = wr := ⟨_, rfl⟩
      have hbws := hbw.size
      have HGL : Hid ((goutS q1 g.reverse).length ≤ g.length) := by have := goutS_len g.reverse q1; unfold Hid; rw [List.length_reverse] at this; exact this
      have hrl : Hid (g.reverse.length = g.length) := List.length_reverse
      go_loopw [4, 7, 8] (fun q out i wr => ∃ c : Nat, c ≤ g.length ∧ i = .int .i64 ((g.length : Int) - 1 - c) ∧ q = .float .f64 (gqS q1 (g.reverse.take c)) ∧ OwnF wr wo.heap.size out (goutS q1 (g.reverse.take c)) ∧ Below wo.heap.size wo wr) (fun _ _ i _ => (intOf i + 1).toNat)
      case atStart => exact ⟨0, Nat.zero_le _, by go_num, rfl, World.ownsRow_made wo #[] 0 (Nat.le_refl _) (by unfold maxLen; omega) rfl, (Below.refl _ _).alloc (Nat.le_refl _) _⟩
      case round =>
        obtain ⟨c2, hk, rfl, rfl, hown, hbo⟩ := hrel
        by_cases hlt : c2 < g.length
        · obtain ⟨gb, rfl, hgb1, hgb2, hgc⟩ := HGC.out (by omega)
          have hck : wr.cell? ⟨gb, g.length - 1 - c2, none⟩ = some (.float .f64 (g.reverse.getD c2 0)) := by
            rw [getD_rev g c2 hlt]
            exact (hbo.cell (p := ⟨gb, g.length - 1 - c2, none⟩) hgb2).trans (hgc _ (by omega))
          have hi2 : ((g.length : Int) - 1 - c2).toNat = g.length - 1 - c2 := by omega
          have hge : (0 : Int) ≤ (g.length : Int) - 1 - c2 := by omega
          have hltn : g.length - 1 - c2 < g.length := by omega
          have hRk := runS_at HRS c2 (by rw [hrl.out]; omega)
          have hgq := gqS_snoc (g.reverse.take c2) (g.reverse.getD c2 0) q1
          have hgo := goutS_snoc (g.reverse.take c2) (g.reverse.getD c2 0) q1
          rw [← take_snoc' g.reverse c2 (by rw [hrl.out]; exact hlt)] at hgq hgo
          have HS := Lib.hid (sum_walk (g.reverse.getD c2 0) (gqS q1 (g.reverse.take c2)) (hRk.2 (by rw [hrl.out]; exact hlt)) hRk.1)
          have hll := goutS_len (g.reverse.take c2) q1
          have hll2 : (g.reverse.take c2).length = c2 := by rw [List.length_take, hrl.out]; omega
          have HQ := Lib.hid hgq
          have HO := Lib.hid hgo
          have HL : Hid ((goutS q1 (g.reverse.take c2)).length ≤ c2) := by unfold Hid; omega
          have hcl : (c2 : Int) + 1 ≤ g.length := by omega
          clear hgc hRk hgq hgo hll hll2
          generalize g.reverse.getD c2 0 = x at *
          generalize gqS q1 (g.reverse.take c2) = q at *
          generalize goutS q1 (g.reverse.take c2) = o at *
          cases hne : fne (sumLo x q) 0
          · have hkp : Hid (keepF (sumLo x q) = []) := by unfold Hid keepF; rw [hne]; rfl
            go_wp2_with (go_at_call 194; refine (HS.out _).mono ?_; rintro e w1 ⟨rfl, hb1⟩)
            go_roundw
            case rel => exact ⟨c2 + 1, by omega, by go_num, by rw [HQ.out], by rw [HO.out, hkp.out, List.append_nil]; exact ownsRow_below hown hb1, hbo.trans (hb1.mono hbo.size)⟩
            case measure => simp [intOf]; omega
          · have hkp : Hid (keepF (sumLo x q) = [sumLo x q]) := by unfold Hid keepF; rw [hne]; rfl
            go_wp2_with (first
              | (go_at_call 194; refine (HS.out _).mono ?_; rintro e w1 ⟨rfl, hb1⟩; have hown1 := ownsRow_below hown hb1; clear hown)
              | (at_builtin; refine wpList_append_own _ rfl _ _ 148 rfl wo.heap.size 23 i0 (.float .f64 0) 1 8 Tryz.underlying148 hi hz0 hz1 hz2 rfl (by decide) _ _ _ rfl (hown1.alloc _) ⟨w1.heap.size, 0, none⟩ 1 1 [.float .f64 (sumLo x q)] rfl rfl ?c1 ?c2 ?c3 ?c4 ?c5 ?_))
            case c1 =>
              intro j u hj
              match j, hj with
              | 0, hj => simp at hj; subst hj; simp [Addr.add]
            case c2 => exact float_oneCell _
            case c3 => have := HL.out; unfold maxLen; omega
            case c4 => have := HL.out; omega
            case c5 => have := hbo.size; have := hb1.size; simp; omega
            intro v' w2 hown2 hgrow2 _
            have hlt1 := World.ownsRow.lt hown1
            have hbw2 : Below wo.heap.size wo w2 := ((hbo.trans (hb1.mono hbo.size)).alloc (by have := hbo.size; have := hb1.size; omega) _).grown hgrow2 (by have := hbo.size; have := hb1.size; simp; omega) (fun kk hkk => (hlt1 kk hkk).1)
            have hown3 : OwnF w2 wo.heap.size v' (o ++ [sumLo x q]) := by unfold OwnF; rw [List.length_append, List.map_append]; exact hown2
            clear hown2 hgrow2 hown1 hlt1 hb1 hck
            go_wp2
            go_roundw
            case rel => exact ⟨c2 + 1, by omega, by go_num, by rw [HQ.out], by rw [HO.out, hkp.out]; exact hown3, hbw2⟩
            case measure => simp [intOf]; omega
        · have hcl : c2 = g.length := by omega
          have htk : g.reverse.take c2 = g.reverse := List.take_of_length_le (by rw [hrl.out]; omega)
          rw [htk] at hown
          rw [htk]
          have HD : Hid (neatW l = goutS q1 g.reverse ++ keepF (gqS q1 g.reverse)) := HN
          have hneg2 : (g.length : Int) - 1 - c2 < 0 := by omega
          clear hcl htk hlt hk HRS HGC hrl HN
          generalize gqS q1 g.reverse = q at *
          generalize goutS q1 g.reverse = o at *
          cases hne : fne q 0
          · have hkp : Hid (keepF q = []) := by unfold Hid keepF; rw [hne]; rfl
            go_wp2
            go_ret
            exact ⟨_, rfl, by rw [HD.out, hkp.out, List.append_nil]; exact ownsRow_base hown hbws, hbw.trans (hbo.mono hbws)⟩
          · have hkp : Hid (keepF q = [q]) := by unfold Hid keepF; rw [hne]; rfl
            go_wp2_with (at_builtin; refine wpList_append_own _ rfl _ _ 148 rfl wo.heap.size 23 i0 (.float .f64 0) 1 8 Tryz.underlying148 hi hz0 hz1 hz2 rfl (by decide) _ _ _ rfl (hown.alloc _) ⟨wr.heap.size, 0, none⟩ 1 1 [.float .f64 q] rfl rfl ?c1 ?c2 ?c3 ?c4 ?c5 ?_)
            case c1 =>
              intro j u hj
              match j, hj with
              | 0, hj => simp at hj; subst hj; simp [Addr.add]
            case c2 => exact float_oneCell _
            case c3 => have := HGL.out; unfold maxLen; omega
            case c4 => have := HGL.out; omega
            case c5 => have := hbo.size; simp; omega
            intro v' w2 hown2 hgrow2 _
            have hlt1 := World.ownsRow.lt hown
            have hbw2 : Below wo.heap.size wo w2 := (hbo.alloc hbo.size _).grown hgrow2 (by have := hbo.size; simp; omega) (fun kk hkk => (hlt1 kk hkk).1)
            have hown3 : OwnF w2 wo.heap.size v' (o ++ [q]) := by unfold OwnF; rw [List.length_append, List.map_append]; exact hown2
            clear hown2 hgrow2 hlt1
            go_wp2
            go_ret
            exact ⟨_, rfl, by rw [HD.out, hkp.out]; exact ownsRow_base hown3 hbws, hbw.trans (hbw2.mono hbws)⟩

theorem neat_walk (l : List Nat) (v : Value) (hr : runN l) (hlen : l.length ≤ 1024) (w : World) (hv : FSl w v l) :
    Calls Tryz.prog 207 #[v] w fun e w' => ∃ v', e = .returned v' ∧ OwnF w' w.heap.size v' (neatW l) ∧ Below w.heap.size w w' := by
  obtain ⟨ad, cap, rfl, hcell⟩ := hv.form
  by_cases h0 : 0 < l.length
  · exact neat_some l ad cap hr hlen h0 w (hcell h0)
  · have : l = [] := List.length_eq_zero_iff.1 (by omega)
    subst this
    exact neat_nil ad cap w

end Go.Proofs.YthookkmgmholcaaGreatDoor

/- expand.apart where an expansion may be as it is; that a neat one may; the merge's closure. -/
namespace Go.Proofs.YthookkmgmholcaaGreatDoor
open Go.RowKit Tvf

def INF : Nat := 9218868437227405312

set_option maxRecDepth 100000 in
set_option maxHeartbeats 400000 in
theorem inf_walk (w : World) :
    Calls Tryz.prog 233 #[.int .i64 1] w fun e w' => e = .returned (.float .f64 9218868437227405312) ∧ w = w' := by
  go_enter Tryz.func233, Tryz.ntmps233
  go_wp2
  go_ret
  exact ⟨rfl, rfl⟩

theorem fin_tiny : fin 1 := by unfold fin; omega
theorem fval_tiny : fval 1 = 1 := by decide

set_option maxRecDepth 100000 in
set_option maxHeartbeats 400000 in
theorem apart_walk (l : List Nat) (v : Value) (hl : ∀ x, x ∈ l → fin x) (ha : allB l 1 INF = true) (w : World) (hv : FSl w v l) :
    Calls Tryz.prog 206 #[v] w fun e w' => e = .returned v ∧ w = w' := by
  have HA := Lib.hid (all_walk l v 1 INF fin_tiny (by rw [fval_tiny]; decide) hl w hv)
  rw [ha] at HA
  unfold INF at HA
  clear ha hl
  go_enter Tryz.func206, Tryz.ntmps206
  go_wp2_with (first | (go_at_call 233; refine (inf_walk _).mono ?_; rintro e w' ⟨rfl, rfl⟩) | (go_at_call 165; refine (HA.out).mono ?_; rintro e w' ⟨rfl, rfl⟩))
  go_ret
  exact ⟨rfl, rfl⟩

theorem fle_inf {x : Nat} (hx : fin x) : fle x INF = true := by
  obtain ⟨m, i, e1, v1, _⟩ := read_fin hx
  unfold fle Ieee.Format.order
  have e2 : D.read INF = .infinity false := by decide
  rw [e1, e2]
  rfl

/-- what lies one upon the other may be -/
theorem good_of_nov (l : List Nat) (hl : ∀ x, x ∈ l → fin x) (p : Nat) (hn : nov p (l.map fval)) (a b : Nat) (hw : ∀ x, x ∈ l → withinB x a b = true) : ∀ j, j < l.length → goodAt l a b j = true := by
  have gen : ∀ (l : List Nat) (p : Nat), (∀ x, x ∈ l → fin x) → nov p (l.map fval) → ∀ j, j + 1 < l.length → fge (l.getD j 0 % 2 ^ 63) (lowF (l.getD (j + 1) 0)) = false := by
    intro l
    induction l with
    | nil => intro p _ _ j hj; simp at hj
    | cons x r ih =>
      intro p hl hn j hj
      cases j with
      | succ j => exact ih _ (fun y hy => hl y (List.mem_cons_of_mem _ hy)) hn.2.2 j (by simp at hj; omega)
      | zero =>
        cases r with
        | nil => simp at hj
        | cons y r =>
          have hx := hl x (List.mem_cons_self ..)
          have hy := hl y (List.mem_cons_of_mem _ (List.mem_cons_self ..))
          obtain ⟨y0, ⟨k, hk1, hk2⟩, _⟩ := hn.2.2
          have hlow := lowF_spec hy y0
          show fge (x % 2 ^ 63) (lowF y) = false
          rw [fge_val (fin_abs hx) hlow.2.1, fval_abs]
          obtain ⟨v, q, h1, h2, h3⟩ := hlow.2.2
          rw [h1]
          -- the lowest digit is no lower than the power of two
          have hkv : k ≤ v := by
            apply Classical.byContradiction
            intro hc
            rw [h2] at hk2
            obtain ⟨c, hc2⟩ := hk2
            have e1 : (2 : Int) ^ k = 2 ^ v * 2 ^ (k - v) := by rw [← Int.pow_add, show v + (k - v) = k by omega]
            rw [e1, Int.mul_comm q, Int.mul_assoc] at hc2
            have := Int.eq_of_mul_eq_mul_left (Int.ne_of_gt (Int.pow_pos (by omega) : (0 : Int) < 2 ^ v)) hc2
            rw [show k - v = k - v - 1 + 1 by omega, Int.pow_succ, Int.mul_assoc] at this
            generalize (2 : Int) ^ (k - v - 1) = P at *
            have h4 : q = 2 * (P * c) := by rw [this]; grind
            omega
          have hp : 2 ^ k ≤ 2 ^ v := Nat.pow_le_pow_right (by omega) hkv
          have cast : ((2 ^ v : Nat) : Int) = (2 : Int) ^ v := by simp
          rw [← cast]
          simp only [decide_eq_false_iff_not]
          show ¬ ((2 ^ v : Nat) : Int) ≤ ((fval x).natAbs : Int)
          have hk1' : (fval x).natAbs < 2 ^ k := hk1
          omega
  intro j hj
  unfold goodAt
  rw [hw _ (getD_mem hj), Bool.true_and]
  cases j with
  | zero => rfl
  | succ j =>
    rw [show j + 1 - 1 = j by omega, gen l p hl hn j hj]; simp

theorem within_tiny {x : Nat} (hx : fin x) (h0 : fval x ≠ 0) : withinB x 1 INF = true := by
  unfold withinB
  rw [fle_inf (fin_abs hx), fge_val (fin_abs hx) fin_tiny, fval_abs, fval_tiny]
  simp; omega

/-- ALL OF A NEAT EXPANSION, on words -/
structure NeatFacts (o l : List Nat) : Prop where
  fins : ∀ x, x ∈ l → fin x
  nz : ∀ x, x ∈ l → fval x ≠ 0
  sum : isum (l.map fval) = isum (o.map fval)
  novs : nov 0 (l.map fval)
  abs : absSum (l.map fval) ≤ 8 * (isum (o.map fval)).natAbs
  all : allB l 1 INF = true
  dvd : ∀ k : Nat, (∀ x, x ∈ o → (2 : Int) ^ k ∣ fval x) → ∀ x, x ∈ l → (2 : Int) ^ k ∣ fval x

theorem neat_facts {o : List Nat} (hr : runN o) (hn : nov 0 (o.map fval)) (hlen : o.length ≤ 1000) (hb : absSum (o.map fval) ≤ 2 ^ (unitE + 998)) : NeatFacts o (neatW o) := by
  obtain ⟨h1, h2⟩ := neatW_vals hr
  obtain ⟨n1, n2, n3, n4, n5, n6, n7⟩ := neat_all hn (fun y hy => by
    obtain ⟨x, _, rfl⟩ := List.mem_map.1 hy; exact rep_fval x) (by rw [List.length_map]; omega)
  rw [← h1] at n1 n2 n3 n5 n6 n7
  have hnz : ∀ x, x ∈ neatW o → fval x ≠ 0 := fun x hx => n3 _ (List.mem_map_of_mem hx)
  refine ⟨h2, hnz, n1, n2, n5, ?_, ?_⟩
  · refine all_true ?_ (good_of_nov _ h2 0 n2 1 INF (fun x hx => within_tiny (h2 x hx) (hnz x hx)))
    have := n6 (unitE + 998) (by
      refine Nat.lt_of_le_of_lt (Nat.le_trans (isum_le _) hb) ?_
      exact Nat.pow_lt_pow_right (by omega) (by omega))
    rw [List.length_map] at this
    have hu := unitE_eq
    omega
  · intro k hk x hx
    refine n7 k ?_ _ (List.mem_map_of_mem hx)
    intro y hy
    obtain ⟨z, hz, rfl⟩ := List.mem_map.1 hy
    exact hk z hz

end Go.Proofs.YthookkmgmholcaaGreatDoor

/- The walk of expand.plus's closure, which hands out the floats of two expansions by rising magnitudes. -/
namespace Go.Proofs.YthookkmgmholcaaGreatDoor
open Go.RowKit Tvf

/-- of which of the two the next one is taken: true: of the first -/
def pickB (e f : List Nat) (i k : Nat) : Bool := decide (k = f.length) || (decide (i < e.length) && flt (e.getD i 0 % 2 ^ 63) (f.getD k 0 % 2 ^ 63))

/-- the boxes of a merge -/
structure Boxes (w : World) (b : Nat) (ve vf : Value) (i k : Nat) : Prop where
  hE : w.cell? ⟨b, 0, none⟩ = some ve
  hF : w.cell? ⟨b + 1, 0, none⟩ = some vf
  hI : w.cell? ⟨b + 1 + 1, 0, none⟩ = some (.int .i64 i)
  hK : w.cell? ⟨b + 1 + 1 + 1, 0, none⟩ = some (.int .i64 k)
  fI : w.frozen? ⟨b + 1 + 1, 0, none⟩ = false
  fK : w.frozen? ⟨b + 1 + 1 + 1, 0, none⟩ = false

/-- a contract that leaves the world as it is, met among draws -/
theorem qleft {P : Program} {g : FuncId} {args : Array Value} {w : World} {n : Nat} {v : Value}
    (h : Calls P g args (w.drewN n) fun r w' => r = .returned v ∧ w.drewN n = w') : Calls P g args (w.drewN n) fun r w'' => r = .returned v ∧ ∃ m, w'' = w.drewN m :=
  h.mono fun _ _ ⟨he, hm⟩ => ⟨he, n, hm.symm⟩

/-- a slice's floats, where there are any -/
def CellsF (w : World) (ad : Option Addr) (l : List Nat) (b : Nat) : Prop :=
  0 < l.length → ∃ bb off : Nat, ad = some ⟨bb, off, none⟩ ∧ bb < b ∧ ∀ i, i < l.length → w.cell? ⟨bb, off + i, none⟩ = some (.float .f64 (l.getD i 0))

set_option maxRecDepth 100000 in
set_option maxHeartbeats 1600000 in
theorem next_e (e f : List Nat) (b : Nat) (ead fad : Option Addr) (ec fc : Nat) (i k : Nat) (hle : e.length ≤ 4294967296) (hlf : f.length ≤ 4294967296) (h64e : ∀ x, x ∈ e → x < 2 ^ 64) (h64f : ∀ x, x ∈ f → x < 2 ^ 64) (hk : k ≤ f.length) (hi : i < e.length) (hp : pickB e f i k = true) (w : World)
    (hB : Boxes w b (.slice ead e.length ec) (.slice fad f.length fc) i k) (hce : CellsF w ead e b) (hcf : CellsF w fad f b) :
    Calls Tryz.prog 204 #[.pointer (some ⟨b + 1 + 1 + 1, 0, none⟩), .pointer (some ⟨b + 1, 0, none⟩), .pointer (some ⟨b + 1 + 1, 0, none⟩), .pointer (some ⟨b, 0, none⟩)] w fun r w' =>
      ∃ n, r = .returned (.float .f64 (e.getD i 0)) ∧ w' = (w.drewN n).setCell ⟨b + 1 + 1, 0, none⟩ (.int .i64 (i + 1)) := by
  obtain ⟨hE, hF, hI, hK, fI, fK⟩ := hB
  obtain ⟨eb, eo, rfl, heb, hec⟩ := hce (by omega)
  have hx := hec i hi
  have HX := Lib.hid (h64e _ (getD_mem hi))
  have hi1 : ((i : Int) + 1 - 1).toNat = i := by omega
  unfold pickB at hp
  by_cases hkf : k = f.length
  · subst hkf
    clear hec hce hcf h64e h64f hp
    generalize e.getD i 0 = x at *
    go_enter Tryz.func204, Tryz.ntmps204
    go_wp2
    go_quiet (fail)
    go_wp2
    go_ret
    exact ⟨_, rfl, rfl⟩
  · have hlt : k < f.length := by omega
    obtain ⟨fb, fo, rfl, hfb, hfc⟩ := hcf (by omega)
    have hy := hfc k hlt
    have HY := Lib.hid (h64f _ (getD_mem hlt))
    have hkd : ((k : Int) == (f.length : Int)) = false := by rw [beq_eq_false_iff_ne]; omega
    have hid : decide ((i : Int) < (e.length : Int)) = true := by simp; omega
    have hfl : flt (e.getD i 0 % 2 ^ 63) (f.getD k 0 % 2 ^ 63) = true := by
      rw [show decide (k = f.length) = false by simpa using hkf, Bool.false_or, Bool.and_eq_true] at hp
      exact hp.2
    clear hec hfc hce hcf h64e h64f hp hkf
    generalize e.getD i 0 = x at *
    generalize f.getD k 0 = y at *
    go_enter Tryz.func204, Tryz.ntmps204
    go_wp2
    go_quiet ((go_at_call 140; (first | exact qleft (abs_any x HX.out _) | exact qleft (abs_any y HY.out _))))
    go_wp2
    go_ret
    exact ⟨_, rfl, rfl⟩

set_option maxRecDepth 100000 in
set_option maxHeartbeats 1600000 in
theorem next_f (e f : List Nat) (b : Nat) (ead fad : Option Addr) (ec fc : Nat) (i k : Nat) (hle : e.length ≤ 4294967296) (hlf : f.length ≤ 4294967296) (h64e : ∀ x, x ∈ e → x < 2 ^ 64) (h64f : ∀ x, x ∈ f → x < 2 ^ 64) (hk : k ≤ f.length) (hi : i ≤ e.length) (hp : pickB e f i k = false) (w : World)
    (hB : Boxes w b (.slice ead e.length ec) (.slice fad f.length fc) i k) (hce : CellsF w ead e b) (hcf : CellsF w fad f b) :
    Calls Tryz.prog 204 #[.pointer (some ⟨b + 1 + 1 + 1, 0, none⟩), .pointer (some ⟨b + 1, 0, none⟩), .pointer (some ⟨b + 1 + 1, 0, none⟩), .pointer (some ⟨b, 0, none⟩)] w fun r w' =>
      ∃ n, r = .returned (.float .f64 (f.getD k 0)) ∧ w' = (w.drewN n).setCell ⟨b + 1 + 1 + 1, 0, none⟩ (.int .i64 (k + 1)) := by
  obtain ⟨hE, hF, hI, hK, fI, fK⟩ := hB
  unfold pickB at hp
  rw [Bool.or_eq_false_iff] at hp
  obtain ⟨hp1, hp2⟩ := hp
  have hlt : k < f.length := by have := of_decide_eq_false hp1; omega
  obtain ⟨fb, fo, rfl, hfb, hfc⟩ := hcf (by omega)
  have hy := hfc k hlt
  have HY := Lib.hid (h64f _ (getD_mem hlt))
  have hkd : ((k : Int) == (f.length : Int)) = false := by rw [beq_eq_false_iff_ne]; omega
  have hk1 : ((k : Int) + 1 - 1).toNat = k := by omega
  clear hp1 hcf
  by_cases hil : i < e.length
  · obtain ⟨eb, eo, rfl, heb, hec⟩ := hce (by omega)
    have hx := hec i hil
    have HX := Lib.hid (h64e _ (getD_mem hil))
    have hid : decide ((i : Int) < (e.length : Int)) = true := by simp; omega
    have hfl : flt (e.getD i 0 % 2 ^ 63) (f.getD k 0 % 2 ^ 63) = false := by
      rw [show decide (i < e.length) = true by simpa using hil, Bool.true_and] at hp2
      exact hp2
    clear hec hfc hce h64e h64f hp2
    generalize e.getD i 0 = x at *
    generalize f.getD k 0 = y at *
    go_enter Tryz.func204, Tryz.ntmps204
    go_wp2
    go_quiet ((go_at_call 140; (first | exact qleft (abs_any x HX.out _) | exact qleft (abs_any y HY.out _))))
    go_wp2
    go_ret
    exact ⟨_, rfl, rfl⟩
  · have hid : decide ((i : Int) < (e.length : Int)) = false := by simp; omega
    clear hfc hce h64e h64f hp2
    generalize f.getD k 0 = y at *
    go_enter Tryz.func204, Tryz.ntmps204
    go_wp2
    go_quiet (fail)
    go_wp2
    go_ret
    exact ⟨_, rfl, rfl⟩

end Go.Proofs.YthookkmgmholcaaGreatDoor

/- expand.plus: what it comes to, and its walk. -/
namespace Go.Proofs.YthookkmgmholcaaGreatDoor
open Go.RowKit Tvf

/-- the merge, behind n steps: how many of the first, how many of the second, what was grown -/
def mst (e f : List Nat) : Nat → Nat × Nat × List Nat
  | 0 => (0, 0, [])
  | n + 1 => if pickB e f (mst e f n).1 (mst e f n).2.1 then ((mst e f n).1 + 1, (mst e f n).2.1, growW (e.getD (mst e f n).1 0) (mst e f n).2.2)
      else ((mst e f n).1, (mst e f n).2.1 + 1, growW (f.getD (mst e f n).2.1 0) (mst e f n).2.2)

theorem mst_places (e f : List Nat) (n : Nat) (hn : n ≤ e.length + f.length) : (mst e f n).1 ≤ e.length ∧ (mst e f n).2.1 ≤ f.length ∧ (mst e f n).1 + (mst e f n).2.1 = n := by
  induction n with
  | zero => exact ⟨Nat.zero_le _, Nat.zero_le _, rfl⟩
  | succ n ih =>
    obtain ⟨h1, h2, h3⟩ := ih (by omega)
    unfold mst
    generalize mst e f n = s at *
    split
    · rename_i h
      unfold pickB at h
      rw [Bool.or_eq_true, Bool.and_eq_true] at h
      have : s.1 < e.length := by
        rcases h with h | h
        · have := of_decide_eq_true h; omega
        · exact of_decide_eq_true h.1
      exact ⟨by simp; omega, h2, by simp; omega⟩
    · rename_i h
      have h' : pickB e f s.1 s.2.1 = false := by simpa using h
      unfold pickB at h'
      rw [Bool.or_eq_false_iff] at h'
      have := of_decide_eq_false h'.1
      exact ⟨h1, by simp; omega, by simp; omega⟩

theorem pick_lt {e f : List Nat} {i k : Nat} (h : pickB e f i k = true) (hs : i + k < e.length + f.length) : i < e.length := by
  unfold pickB at h
  rw [Bool.or_eq_true, Bool.and_eq_true] at h
  rcases h with h | h
  · have := of_decide_eq_true h; omega
  · exact of_decide_eq_true h.1

theorem growW_len (b : Nat) (l : List Nat) : (growW b l).length ≤ l.length + 1 := by
  unfold growW
  rw [List.length_append]
  have := gout_len l b
  have : (keepF (gq b l)).length ≤ 1 := by unfold keepF; split <;> simp
  omega

/-- what holds of a grown expansion -/
structure GFacts (o : List Nat) (n : Nat) (S : Int) (A : Nat) : Prop where
  fins : ∀ x, x ∈ o → fin x
  novs : nov 0 (o.map fval)
  len : o.length ≤ n
  sum : isum (o.map fval) = S
  abs : 2 ^ 40 * absSum (o.map fval) ≤ (2 ^ 40 + 2 * n) * A

/-- the bound on all that is added, behind a name -/
def capE : Nat := unitE + 989
theorem capE_ok : capE + 11 ≤ unitE + 1000 := by decide
theorem capE_big : 2 ^ capE * 256 ≤ 2 ^ (unitE + 998) := by
  have e : (256 : Nat) = 2 ^ 8 := rfl
  rw [e, ← Nat.pow_add]; exact Nat.pow_le_pow_right (by decide) (by decide)

theorem fvals_rep (o : List Nat) : ∀ y, y ∈ o.map fval → rep y := fun y hy => by
  obtain ⟨x, _, rfl⟩ := List.mem_map.1 hy; exact rep_fval x

theorem grow_step {o : List Nat} {n : Nat} {S : Int} {A x : Nat} (h : GFacts o n S A) (hx : fin x) (hn : n ≤ 1000) (hA : A + (fval x).natAbs ≤ 2 ^ capE * 256) :
    runOK x o ∧ GFacts (growW x o) (n + 1) (S + fval x) (A + (fval x).natAbs) := by
  have hb : absSum (o.map fval) ≤ 2 * A := by
    have h1 := h.abs
    have h2 : (2 ^ 40 + 2 * n) * A ≤ 2 ^ 41 * A := Nat.mul_le_mul_right _ (by omega)
    omega
  have hr : runOK x o := by
    refine runOK_of capE capE_ok o x hx h.fins (by have := h.len; omega) ?_
    have hle : 2 ^ capE * 1024 ≤ 2 ^ capE * (2048 - o.length) := Nat.mul_le_mul_left _ (by have := h.len; omega)
    refine Nat.le_trans ?_ hle
    generalize 2 ^ capE = P at *
    generalize (fval x).natAbs = X at *
    omega
  refine ⟨hr, ?_⟩
  obtain ⟨v1, v2⟩ := growW_vals hr
  refine ⟨v2, ?_, ?_, ?_, ?_⟩
  · rw [v1]
    exact growGo_nov _ 0 0 _ (rep_fval x) ⟨0, by simp, by simp, fun y _ => by simp⟩ h.novs
  · have := growW_len x o; have := h.len; omega
  · rw [v1, growGo_sum, h.sum]; omega
  · rw [v1]
    have hg := growGo_abs (fval x) (o.map fval) (by rw [List.length_map]; have := h.len; omega)
    have ha := h.abs
    generalize absSum (growGo (fval x) (o.map fval)) = W at *
    generalize absSum (o.map fval) = B at *
    generalize (fval x).natAbs = X at *
    -- 2^80 W is at most (2^40 + 1) (2^40 + 2n) (A + X)
    have h1 : 2 ^ 40 * (X + B) ≤ (2 ^ 40 + 2 * n) * (A + X) := by
      rw [Nat.mul_add, Nat.mul_add]
      have : 2 ^ 40 * X ≤ (2 ^ 40 + 2 * n) * X := Nat.mul_le_mul_right _ (by omega)
      omega
    have h2 : (2 ^ 40 + 1) * (2 ^ 40 + 2 * n) ≤ 2 ^ 40 * (2 ^ 40 + 2 * (n + 1)) := by
      have : (2 ^ 40 + 1) * (2 ^ 40 + 2 * n) = 2 ^ 40 * 2 ^ 40 + 2 ^ 40 * (2 * n) + 2 ^ 40 + 2 * n := by
        rw [Nat.add_mul, Nat.mul_add]; omega
      omega
    have h3 : 2 ^ 40 * (2 ^ 40 * W) ≤ 2 ^ 40 * ((2 ^ 40 + 2 * (n + 1)) * (A + X)) := by
      have s1 : 2 ^ 40 * (2 ^ 40 * W) ≤ 2 ^ 40 * ((2 ^ 40 + 1) * (X + B)) := Nat.mul_le_mul_left _ hg
      have s2 : 2 ^ 40 * ((2 ^ 40 + 1) * (X + B)) = (2 ^ 40 + 1) * (2 ^ 40 * (X + B)) := Nat.mul_left_comm _ _ _
      have s3 : (2 ^ 40 + 1) * (2 ^ 40 * (X + B)) ≤ (2 ^ 40 + 1) * ((2 ^ 40 + 2 * n) * (A + X)) := Nat.mul_le_mul_left _ h1
      have s4 : (2 ^ 40 + 1) * ((2 ^ 40 + 2 * n) * (A + X)) ≤ 2 ^ 40 * (2 ^ 40 + 2 * (n + 1)) * (A + X) := by
        rw [← Nat.mul_assoc]; exact Nat.mul_le_mul_right _ h2
      rw [Nat.mul_assoc] at s4
      exact Nat.le_trans s1 (Nat.le_trans (Nat.le_of_eq s2) (Nat.le_trans s3 s4))
    exact Nat.le_of_mul_le_mul_left h3 (by omega)

/-- sums of what was taken -/
theorem take_sum (e : List Nat) (i : Nat) (h : i < e.length) : isum ((e.take (i + 1)).map fval) = isum ((e.take i).map fval) + fval (e.getD i 0) ∧ absSum ((e.take (i + 1)).map fval) = absSum ((e.take i).map fval) + (fval (e.getD i 0)).natAbs := by
  rw [take_snoc' e i h, List.map_append, isum_append, absSum_append]
  simp [isum, absSum]

theorem absSum_take (e : List Nat) (i : Nat) : absSum ((e.take i).map fval) ≤ absSum (e.map fval) := by
  have := List.take_append_drop i e
  conv => rhs; rw [← this]
  rw [List.map_append, absSum_append]; omega

theorem mst_facts {e f : List Nat} (he : ∀ x, x ∈ e → fin x) (hf : ∀ x, x ∈ f → fin x) (hlen : e.length + f.length ≤ 1000) (hA : absSum (e.map fval) + absSum (f.map fval) ≤ 2 ^ capE * 256) (n : Nat) (hn : n ≤ e.length + f.length) :
    GFacts (mst e f n).2.2 n (isum ((e.take (mst e f n).1).map fval) + isum ((f.take (mst e f n).2.1).map fval)) (absSum ((e.take (mst e f n).1).map fval) + absSum ((f.take (mst e f n).2.1).map fval)) ∧
    (n < e.length + f.length → (pickB e f (mst e f n).1 (mst e f n).2.1 = true → runOK (e.getD (mst e f n).1 0) (mst e f n).2.2) ∧ (pickB e f (mst e f n).1 (mst e f n).2.1 = false → runOK (f.getD (mst e f n).2.1 0) (mst e f n).2.2)) := by
  have step : ∀ n, n < e.length + f.length → GFacts (mst e f n).2.2 n (isum ((e.take (mst e f n).1).map fval) + isum ((f.take (mst e f n).2.1).map fval)) (absSum ((e.take (mst e f n).1).map fval) + absSum ((f.take (mst e f n).2.1).map fval)) →
      (pickB e f (mst e f n).1 (mst e f n).2.1 = true → (mst e f n).1 < e.length ∧ runOK (e.getD (mst e f n).1 0) (mst e f n).2.2 ∧ GFacts (growW (e.getD (mst e f n).1 0) (mst e f n).2.2) (n + 1) (isum ((e.take ((mst e f n).1 + 1)).map fval) + isum ((f.take (mst e f n).2.1).map fval)) (absSum ((e.take ((mst e f n).1 + 1)).map fval) + absSum ((f.take (mst e f n).2.1).map fval))) ∧
      (pickB e f (mst e f n).1 (mst e f n).2.1 = false → (mst e f n).2.1 < f.length ∧ runOK (f.getD (mst e f n).2.1 0) (mst e f n).2.2 ∧ GFacts (growW (f.getD (mst e f n).2.1 0) (mst e f n).2.2) (n + 1) (isum ((e.take (mst e f n).1).map fval) + isum ((f.take ((mst e f n).2.1 + 1)).map fval)) (absSum ((e.take (mst e f n).1).map fval) + absSum ((f.take ((mst e f n).2.1 + 1)).map fval))) := by
    intro n hn h
    obtain ⟨p1, p2, p3⟩ := mst_places e f n (by omega)
    generalize mst e f n = s at *
    refine ⟨fun hp => ?_, fun hp => ?_⟩
    · have hi := pick_lt hp (by omega)
      obtain ⟨t1, t2⟩ := take_sum e s.1 hi
      have a1 := absSum_take e (s.1 + 1)
      have a2 := absSum_take f s.2.1
      have g := grow_step h (he _ (getD_mem hi)) (by omega) (by rw [t2] at a1; omega)
      refine ⟨hi, g.1, ?_⟩
      have g2 := g.2
      rw [t1, t2]
      rw [show isum ((e.take s.1).map fval) + fval (e.getD s.1 0) + isum ((f.take s.2.1).map fval) = isum ((e.take s.1).map fval) + isum ((f.take s.2.1).map fval) + fval (e.getD s.1 0) by omega,
        show absSum ((e.take s.1).map fval) + (fval (e.getD s.1 0)).natAbs + absSum ((f.take s.2.1).map fval) = absSum ((e.take s.1).map fval) + absSum ((f.take s.2.1).map fval) + (fval (e.getD s.1 0)).natAbs by omega]
      exact g2
    · have hk : s.2.1 < f.length := by
        unfold pickB at hp
        rw [Bool.or_eq_false_iff] at hp
        have := of_decide_eq_false hp.1
        omega
      obtain ⟨t1, t2⟩ := take_sum f s.2.1 hk
      have a1 := absSum_take f (s.2.1 + 1)
      have a2 := absSum_take e s.1
      have g := grow_step h (hf _ (getD_mem hk)) (by omega) (by rw [t2] at a1; omega)
      refine ⟨hk, g.1, ?_⟩
      have g2 := g.2
      rw [t1, t2]
      rw [← Int.add_assoc, ← Nat.add_assoc]
      exact g2
  have all : ∀ n, n ≤ e.length + f.length → GFacts (mst e f n).2.2 n (isum ((e.take (mst e f n).1).map fval) + isum ((f.take (mst e f n).2.1).map fval)) (absSum ((e.take (mst e f n).1).map fval) + absSum ((f.take (mst e f n).2.1).map fval)) := by
    intro n
    induction n with
    | zero => intro _; exact ⟨fun x hx => by simp [mst] at hx, trivial, by simp [mst], by simp [mst, isum], by simp [mst, absSum]⟩
    | succ n ih =>
      intro hn
      have hs := step n (by omega) (ih (by omega))
      unfold mst
      cases hp : pickB e f (mst e f n).1 (mst e f n).2.1
      · exact (hs.2 hp).2.2
      · exact (hs.1 hp).2.2
  refine ⟨all n hn, fun h => ?_⟩
  have hs := step n h (all n hn)
  exact ⟨fun hp => (hs.1 hp).2.1, fun hp => (hs.2 hp).2.1⟩

theorem growW_dvd {o : List Nat} {x : Nat} (hr : runOK x o) (k : Nat) (hx : (2 : Int) ^ k ∣ fval x) (ho : ∀ y, y ∈ o → (2 : Int) ^ k ∣ fval y) : ∀ y, y ∈ growW x o → (2 : Int) ^ k ∣ fval y := by
  obtain ⟨v1, _⟩ := growW_vals hr
  intro y hy
  have : fval y ∈ growGo (fval x) (o.map fval) := by rw [← v1]; exact List.mem_map_of_mem hy
  refine growGo_dvd k _ _ hx ?_ _ this
  intro z hz
  obtain ⟨u, hu, rfl⟩ := List.mem_map.1 hz
  exact ho u hu

/-- the sum of two expansions -/
def plusW (e f : List Nat) : List Nat := neatW (mst e f (e.length + f.length)).2.2

/-- what holds of an expansion that was made neat -/
structure ExpFacts (l : List Nat) (S : Int) : Prop where
  fins : ∀ x, x ∈ l → fin x
  nz : ∀ x, x ∈ l → fval x ≠ 0
  novs : nov 0 (l.map fval)
  sum : isum (l.map fval) = S
  abs : absSum (l.map fval) ≤ 8 * S.natAbs
  all : allB l 1 INF = true

theorem plus_facts {e f : List Nat} (he : ∀ x, x ∈ e → fin x) (hf : ∀ x, x ∈ f → fin x) (hlen : e.length + f.length ≤ 1000) (hA : absSum (e.map fval) + absSum (f.map fval) ≤ 2 ^ capE * 128) :
    runN (mst e f (e.length + f.length)).2.2 ∧ ExpFacts (plusW e f) (isum (e.map fval) + isum (f.map fval)) ∧
    (∀ k : Nat, (∀ x, x ∈ e → (2 : Int) ^ k ∣ fval x) → (∀ x, x ∈ f → (2 : Int) ^ k ∣ fval x) → ∀ x, x ∈ plusW e f → (2 : Int) ^ k ∣ fval x) := by
  have hA' : absSum (e.map fval) + absSum (f.map fval) ≤ 2 ^ capE * 256 := Nat.le_trans hA (Nat.mul_le_mul_left _ (by decide))
  have hall := fun n hn => mst_facts he hf hlen hA' n hn
  obtain ⟨p1, p2, p3⟩ := mst_places e f (e.length + f.length) (Nat.le_refl _)
  have g := (hall _ (Nat.le_refl _)).1
  rw [show (mst e f (e.length + f.length)).1 = e.length by omega, show (mst e f (e.length + f.length)).2.1 = f.length by omega, List.take_of_length_le (Nat.le_refl _), List.take_of_length_le (Nat.le_refl _)] at g
  have hb : absSum ((mst e f (e.length + f.length)).2.2.map fval) ≤ 2 * (absSum (e.map fval) + absSum (f.map fval)) := by
    have h1 := g.abs
    have h2 : (2 ^ 40 + 2 * (e.length + f.length)) * (absSum (e.map fval) + absSum (f.map fval)) ≤ 2 ^ 41 * (absSum (e.map fval) + absSum (f.map fval)) := Nat.mul_le_mul_right _ (by omega)
    omega
  have hb2 : absSum ((mst e f (e.length + f.length)).2.2.map fval) ≤ 2 ^ capE * 256 := by
    generalize 2 ^ capE = P at *
    omega
  have hr : runN (mst e f (e.length + f.length)).2.2 := runN_of capE capE_ok _ g.fins g.novs (by have := g.len; omega) (Nat.le_trans hb2 (Nat.mul_le_mul_left _ (by decide)))
  have nf := neat_facts hr g.novs (by have := g.len; omega) (Nat.le_trans hb2 capE_big)
  refine ⟨hr, ⟨nf.fins, nf.nz, nf.novs, by unfold plusW; rw [nf.sum, g.sum], by have := nf.abs; rw [g.sum] at this; exact this, nf.all⟩, ?_⟩
  intro k hke hkf
  refine nf.dvd k ?_
  have gen : ∀ n, n ≤ e.length + f.length → ∀ x, x ∈ (mst e f n).2.2 → (2 : Int) ^ k ∣ fval x := by
    intro n
    induction n with
    | zero => intro _ x hx; simp [mst] at hx
    | succ n ih =>
      intro hn
      obtain ⟨q1, q2, q3⟩ := mst_places e f n (by omega)
      have hs := (hall n (by omega)).2 (by omega)
      have ih' := ih (by omega)
      unfold mst
      cases hp : pickB e f (mst e f n).1 (mst e f n).2.1
      · have hk : (mst e f n).2.1 < f.length := by
          have hp' := hp
          unfold pickB at hp'
          rw [Bool.or_eq_false_iff] at hp'
          have := of_decide_eq_false hp'.1
          omega
        exact growW_dvd (hs.2 hp) k (hkf _ (getD_mem hk)) ih'
      · exact growW_dvd (hs.1 hp) k (hke _ (getD_mem (pick_lt hp (by omega)))) ih'
  exact gen _ (Nat.le_refl _)


theorem boxes_I {w : World} {b : Nat} {ve vf : Value} {i k : Nat} (h : Boxes w b ve vf i k) (n : Nat) : Boxes ((w.drewN n).setCell ⟨b + 1 + 1, 0, none⟩ (.int .i64 (i + 1))) b ve vf (i + 1) k := by
  obtain ⟨h1, h2, h3, h4, h5, h6⟩ := h
  refine ⟨?_, ?_, ?_, ?_, ?_, ?_⟩
  · rw [World.cell?_setCell_far _ _ _ _ (by dsimp only; omega)]; exact h1
  · rw [World.cell?_setCell_far _ _ _ _ (by dsimp only; omega)]; exact h2
  · exact World.cell?_setCell_same (w.drewN n) _ _ h3
  · rw [World.cell?_setCell_far _ _ _ _ (by dsimp only; omega)]; exact h4
  · rw [World.frozen?_setCell]; exact h5
  · rw [World.frozen?_setCell]; exact h6

theorem boxes_K {w : World} {b : Nat} {ve vf : Value} {i k : Nat} (h : Boxes w b ve vf i k) (n : Nat) : Boxes ((w.drewN n).setCell ⟨b + 1 + 1 + 1, 0, none⟩ (.int .i64 (k + 1))) b ve vf i (k + 1) := by
  obtain ⟨h1, h2, h3, h4, h5, h6⟩ := h
  refine ⟨?_, ?_, ?_, ?_, ?_, ?_⟩
  · rw [World.cell?_setCell_far _ _ _ _ (by dsimp only; omega)]; exact h1
  · rw [World.cell?_setCell_far _ _ _ _ (by dsimp only; omega)]; exact h2
  · rw [World.cell?_setCell_far _ _ _ _ (by dsimp only; omega)]; exact h3
  · exact World.cell?_setCell_same (w.drewN n) _ _ h4
  · rw [World.frozen?_setCell]; exact h5
  · rw [World.frozen?_setCell]; exact h6

theorem boxes_below {w w' : World} {b : Nat} {ve vf : Value} {i k : Nat} (h : Boxes w b ve vf i k) (hb : Below w.heap.size w w') (hs : b + 4 ≤ w.heap.size) : Boxes w' b ve vf i k := by
  obtain ⟨h1, h2, h3, h4, h5, h6⟩ := h
  refine ⟨?_, ?_, ?_, ?_, ?_, ?_⟩
  · rw [hb.cell (p := ⟨b, 0, none⟩) (by simp; omega)]; exact h1
  · rw [hb.cell (p := ⟨b + 1, 0, none⟩) (by simp; omega)]; exact h2
  · rw [hb.cell (p := ⟨b + 1 + 1, 0, none⟩) (by simp; omega)]; exact h3
  · rw [hb.cell (p := ⟨b + 1 + 1 + 1, 0, none⟩) (by simp; omega)]; exact h4
  · rw [hb.frozen (p := ⟨b + 1 + 1, 0, none⟩) (by simp; omega)]; exact h5
  · rw [hb.frozen (p := ⟨b + 1 + 1 + 1, 0, none⟩) (by simp; omega)]; exact h6

theorem boxes_start (w : World) (ve vf : Value) (T : TypeId) : Boxes ((((w.alloc (Obj.cells #[ve] T)).alloc (Obj.cells #[vf] T)).alloc (Obj.cells #[Value.int .i64 0] 3)).alloc (Obj.cells #[Value.int .i64 0] 3)) w.heap.size ve vf 0 0 := by
  refine ⟨?_, ?_, ?_, ?_, ?_, ?_⟩
  · rw [World.cell?_alloc_past _ _ _ (by simp <;> omega), World.cell?_alloc_past _ _ _ (by simp <;> omega), World.cell?_alloc_past _ _ _ (by simp), World.cell?_alloc_at _ _ _ _ rfl]; rfl
  · rw [World.cell?_alloc_past _ _ _ (by simp <;> omega), World.cell?_alloc_past _ _ _ (by simp), World.cell?_alloc_at _ _ _ _ (by simp)]; rfl
  · rw [World.cell?_alloc_past _ _ _ (by simp), World.cell?_alloc_at _ _ _ _ (by simp)]; rfl
  · rw [World.cell?_alloc_at _ _ _ _ (by simp)]; rfl
  · rw [World.frozen?_alloc_past _ _ _ (by simp)]; exact World.frozen?_alloc_at _ _ _ _ (by simp)
  · exact World.frozen?_alloc_at _ _ _ _ (by simp)

/-- a row of the call's own stands where a box below it is written -/
theorem own_setCell {w : World} {base : Nat} {e : TypeId} {size : Nat} {v : Value} {n : Nat} {xs : List Value} (h : w.ownsRow base e size v n xs) (m : Nat) (p : Addr) (u : Value) (hp : p.block < base) : ((w.drewN m).setCell p u).ownsRow base e size v n xs := by
  obtain ⟨h1, h2 | ⟨g, cap, cur, e1, e2, e3, e4⟩⟩ := h
  · exact ⟨h1, Or.inl h2⟩
  · refine ⟨h1, Or.inr ⟨g, cap, cur, e1, e2, ?_, e4⟩⟩
    rw [Below.heap_setCell _ _ _ _ (by omega)]; exact e3

theorem cellsF_below {w w' : World} {ad : Option Addr} {l : List Nat} {b : Nat} (h : CellsF w ad l b) (hb : Below b w w') : CellsF w' ad l b := by
  intro h0
  obtain ⟨bb, off, e, hlt, hc⟩ := h h0
  exact ⟨bb, off, e, hlt, fun i hi => by rw [hb.cell (p := ⟨bb, off + i, none⟩) hlt]; exact hc i hi⟩

/-- a round's first half: a float is taken -/
def nextX (e f : List Nat) (s : Nat × Nat × List Nat) : Nat := if pickB e f s.1 s.2.1 then e.getD s.1 0 else f.getD s.2.1 0
def nextI (e f : List Nat) (s : Nat × Nat × List Nat) : Nat := if pickB e f s.1 s.2.1 then s.1 + 1 else s.1
def nextK (e f : List Nat) (s : Nat × Nat × List Nat) : Nat := if pickB e f s.1 s.2.1 then s.2.1 else s.2.1 + 1

theorem mst_succ (e f : List Nat) (n : Nat) : mst e f (n + 1) = (nextI e f (mst e f n), nextK e f (mst e f n), growW (nextX e f (mst e f n)) (mst e f n).2.2) := by
  show (if pickB e f (mst e f n).1 (mst e f n).2.1 then _ else _) = _
  unfold nextI nextK nextX
  split <;> rfl

theorem next_any (e f : List Nat) (b : Nat) (ead fad : Option Addr) (ec fc : Nat) (s : Nat × Nat × List Nat) (hle : e.length ≤ 4294967296) (hlf : f.length ≤ 4294967296) (h64e : ∀ x, x ∈ e → x < 2 ^ 64) (h64f : ∀ x, x ∈ f → x < 2 ^ 64) (hk : s.2.1 ≤ f.length) (hi : s.1 ≤ e.length) (hs : s.1 + s.2.1 < e.length + f.length) (w : World)
    (hB : Boxes w b (.slice ead e.length ec) (.slice fad f.length fc) s.1 s.2.1) (hce : CellsF w ead e b) (hcf : CellsF w fad f b) :
    Calls Tryz.prog 204 #[.pointer (some ⟨b + 1 + 1 + 1, 0, none⟩), .pointer (some ⟨b + 1, 0, none⟩), .pointer (some ⟨b + 1 + 1, 0, none⟩), .pointer (some ⟨b, 0, none⟩)] w fun r w' =>
      r = .returned (.float .f64 (nextX e f s)) ∧ Boxes w' b (.slice ead e.length ec) (.slice fad f.length fc) (nextI e f s) (nextK e f s) ∧ Below b w w' ∧ w'.heap.size = w.heap.size ∧ ∀ v xs, OwnF w (b + 4) v xs → OwnF w' (b + 4) v xs := by
  have hsz : ∀ (m : Nat) (p : Addr) (u : Value), ((w.drewN m).setCell p u).heap.size = w.heap.size := fun m p u => by simp [World.setCell]
  have hdb : ∀ m, Below b w (w.drewN m) := fun m => ⟨rfl, rfl, rfl, Nat.le_refl _, fun _ _ => rfl⟩
  unfold nextX nextI nextK
  cases hp : pickB e f s.1 s.2.1
  · exact (next_f e f b ead fad ec fc s.1 s.2.1 hle hlf h64e h64f hk hi hp w hB hce hcf).mono fun r w' ⟨n, h1, h2⟩ =>
      ⟨h1, by rw [h2]; exact boxes_K hB n, by rw [h2]; exact (hdb n).setCell (by dsimp only; omega) _, by rw [h2, hsz], fun v xs h => by rw [h2]; exact own_setCell h n _ _ (by dsimp only; omega)⟩
  · exact (next_e e f b ead fad ec fc s.1 s.2.1 hle hlf h64e h64f hk (pick_lt hp hs) hp w hB hce hcf).mono fun r w' ⟨n, h1, h2⟩ =>
      ⟨h1, by rw [h2]; exact boxes_I hB n, by rw [h2]; exact (hdb n).setCell (by dsimp only; omega) _, by rw [h2, hsz], fun v xs h => by rw [h2]; exact own_setCell h n _ _ (by dsimp only; omega)⟩

set_option maxRecDepth 100000 in
set_option maxHeartbeats 2000000 in
theorem plus_walk (e f : List Nat) (ve vf : Value) (he : ∀ x, x ∈ e → fin x) (hf : ∀ x, x ∈ f → fin x) (hlen : e.length + f.length ≤ 1000) (hA : absSum (e.map fval) + absSum (f.map fval) ≤ 2 ^ capE * 128) (w : World) (hve : FSl w ve e) (hvf : FSl w vf f) :
    Calls Tryz.prog 166 #[ve, vf] w fun r w' => ∃ v', r = .returned v' ∧ FSl w' v' (plusW e f) ∧ Below w.heap.size w w' := by
  have h64e := hve.2.1
  have h64f := hvf.2.1
  obtain ⟨ead, ec, rfl, hce⟩ := hve.form
  obtain ⟨fad, fc, rfl, hcf⟩ := hvf.form
  have hce : CellsF w ead e w.heap.size := fun h => by obtain ⟨b, off, h1, h2, h3⟩ := hce h; exact ⟨b, off, h1, h2, h3⟩
  have hcf : CellsF w fad f w.heap.size := fun h => by obtain ⟨b, off, h1, h2, h3⟩ := hcf h; exact ⟨b, off, h1, h2, h3⟩
  have HP := Lib.hid (plus_facts he hf hlen hA)
  have HM := Lib.hid (fun n hn => mst_facts he hf hlen (Nat.le_trans hA (Nat.mul_le_mul_left _ (by decide))) n hn)
  have H64e := Lib.hid h64e
  have H64f := Lib.hid h64f
  have HCE := Lib.hid hce
  have HCF := Lib.hid hcf
  have hmf : ∀ (fn : Fn) (first cap : Array Value) (w : World), (Instr.makeFunc fn first cap).run Tryz.prog w = .ok (.func fn first cap) w := fun _ _ _ _ => rfl
  clear hve hvf he hf hA h64e h64f hce hcf
  go_enter Tryz.func166, Tryz.ntmps166
  go_wp2
  go_loopw [8, 15] (fun out c wr => ∃ n : Nat, n ≤ e.length + f.length ∧ c = .int .i64 n ∧ Boxes wr w.heap.size (.slice ead e.length ec) (.slice fad f.length fc) (mst e f n).1 (mst e f n).2.1 ∧ OwnF wr (w.heap.size + 4) out (mst e f n).2.2 ∧ Below w.heap.size w wr ∧ w.heap.size + 4 ≤ wr.heap.size) (fun _ c _ => e.length + f.length - (intOf c).toNat)
  case atStart => exact ⟨0, Nat.zero_le _, rfl, boxes_start w _ _ _, World.ownsRow_nil _ _ _ _, ((((Below.refl _ _).alloc (Nat.le_refl _) _).alloc (by simp) _).alloc (by simp; omega) _).alloc (by simp; omega) _, by simp⟩
  case round =>
    obtain ⟨n, hn, rfl, hB, hown, hbw, hsz⟩ := hrel
    by_cases hlt : n < e.length + f.length
    · obtain ⟨p1, p2, p3⟩ := mst_places e f n hn
      have hrun := (HM.out n hn).2 hlt
      have hg := (HM.out n hn).1
      have HN := Lib.hid (next_any e f w.heap.size ead fad ec fc (mst e f n) (by omega) (by omega) H64e.out H64f.out p2 p1 (by omega) wr hB (cellsF_below HCE.out hbw) (cellsF_below HCF.out hbw))
      have HST := Lib.hid (mst_succ e f n)
      have hrx : runOK (nextX e f (mst e f n)) (mst e f n).2.2 := by
        unfold nextX
        cases hp : pickB e f (mst e f n).1 (mst e f n).2.1
        · exact hrun.2 hp
        · exact hrun.1 hp
      have HG := Lib.hid (grow_walk (mst e f n).2.2)
      have HRX := Lib.hid hrx
      have HGF : Hid ((mst e f n).2.2.length ≤ 1000 ∧ ∀ x, x ∈ (mst e f n).2.2 → x < 2 ^ 64) := ⟨by have := hg.len; omega, fun x hx => (hg.fins x hx).1⟩
      have hltI : (n : Int) < (e.length : Int) + (f.length : Int) := by omega
      clear hrun hg hB p1 p2 p3 hrx
      generalize nextX e f (mst e f n) = X at *
      generalize nextI e f (mst e f n) = I' at *
      generalize nextK e f (mst e f n) = K' at *
      generalize (mst e f n).2.2 = o at *
      go_wp2_with (first
        | (go_at_call 204; refine HN.out.mono ?_; rintro r w1 ⟨rfl, hB1, hb1, hs1, ho1⟩; have hown1 := ho1 _ _ hown; have hB2 := Lib.hid hB1; clear hB1 ho1 hown)
        | (go_at_call 205; refine (HG.out _ X HRX.out (by have := HGF.out.1; omega) _ (FSl_of_own hown1 (by have := HGF.out.1; omega) HGF.out.2)).mono ?_; rintro r w2 ⟨v2, rfl, hown2, hb2⟩))
      go_roundw
      case rel =>
        have hsz2 := hb2.size
        refine ⟨n + 1, by omega, by go_num, ?_, ?_, ?_, ?_⟩
        · rw [HST.out]; exact boxes_below hB2.out hb2 (by omega)
        · rw [HST.out]; exact ownsRow_base hown2 (by omega)
        · exact (hbw.trans hb1).trans (hb2.mono (by omega))
        · omega
      case measure => simp [intOf]; omega
    · have hnl : n = e.length + f.length := by omega
      subst hnl
      have hg := (HM.out _ (Nat.le_refl _)).1
      obtain ⟨hrN, hF, _⟩ := HP.out
      have hl64 : (plusW e f).length ≤ 64 := by
        have := hF.all
        unfold allB at this
        rw [Bool.and_eq_true] at this
        exact of_decide_eq_true this.1
      have HF := Lib.hid hF
      have HN : Hid (∀ w v, FSl w v (mst e f (e.length + f.length)).2.2 → Calls Tryz.prog 207 #[v] w fun r w' => ∃ v', r = .returned v' ∧ OwnF w' w.heap.size v' (plusW e f) ∧ Below w.heap.size w w') :=
        fun w v hv => neat_walk (mst e f (e.length + f.length)).2.2 v hrN (by have := hg.len; omega) w hv
      have HO : Hid (FSl wr u8 (mst e f (e.length + f.length)).2.2) := FSl_of_own hown (by have := hg.len; omega) (fun x hx => (hg.fins x hx).1)
      have HPL := Lib.hid hl64
      clear hg hrN hF hB hl64 HM hown
      go_wp2_with (first
        | (go_at_call 207; refine (HN.out _ _ HO.out).mono ?_; rintro r w1 ⟨v1, rfl, hown1, hb1⟩; have hfs := FSl_of_own hown1 (by have := HPL.out; omega) (fun x hx => (HF.out.fins x hx).1))
        | (go_at_call 206; refine (apart_walk (plusW e f) _ HF.out.fins HF.out.all _ hfs).mono ?_; rintro r w2 ⟨rfl, rfl⟩))
      go_ret
      exact ⟨_, rfl, hfs, hbw.trans (hb1.mono (by omega))⟩

end Go.Proofs.YthookkmgmholcaaGreatDoor

/- expand.Neg, Check, Safe, Sign. -/
namespace Go.Proofs.YthookkmgmholcaaGreatDoor
open Go.RowKit Tvf

set_option maxRecDepth 100000 in
set_option maxHeartbeats 400000 in
theorem check_walk (l : List Nat) (v : Value) (hl : ∀ x, x ∈ l → fin x) (w : World) (hv : FSl w v l) :
    Calls Tryz.prog 169 #[v] w fun e w' => e = .returned (.bool (allB l 1 9065746049896808448)) ∧ w = w' := by
  have HA := Lib.hid (all_walk l v 1 9065746049896808448 fin_tiny (by rw [fval_tiny]; decide) hl w hv)
  clear hl
  go_enter Tryz.func169, Tryz.ntmps169
  go_wp2_with (go_at_call 165; refine (HA.out).mono ?_; rintro e w' ⟨rfl, rfl⟩)
  go_ret
  exact ⟨rfl, rfl⟩

set_option maxRecDepth 100000 in
set_option maxHeartbeats 400000 in
theorem safe_all_walk (l : List Nat) (v : Value) (hl : ∀ x, x ∈ l → fin x) (w : World) (hv : FSl w v l) :
    Calls Tryz.prog 167 #[v] w fun e w' => e = .returned (.bool (allB l 2580562586483294208 6633802251116740608)) ∧ w = w' := by
  have HA := Lib.hid (all_walk l v 2580562586483294208 6633802251116740608 (by unfold fin; omega) (by rw [fval_m450]; exact Int.pow_pos (by omega)) hl w hv)
  clear hl
  go_enter Tryz.func167, Tryz.ntmps167
  go_wp2_with (go_at_call 165; refine (HA.out).mono ?_; rintro e w' ⟨rfl, rfl⟩)
  go_ret
  exact ⟨rfl, rfl⟩

/-- the sign of a sum whose parts lie one upon the other: its last's -/
theorem sign_last (l : List Int) (z : Int) (p : Nat) (h : nov p (l ++ [z])) : (0 < isum (l ++ [z]) ↔ 0 < z) ∧ (isum (l ++ [z]) < 0 ↔ z < 0) ∧ z ≠ 0 := by
  have gen : ∀ (l : List Int) (p : Nat), nov p (l ++ [z]) → absSum l < z.natAbs ∧ z ≠ 0 := by
    intro l p h
    have hd := dn_of_nov h
    rw [List.reverse_append] at hd
    obtain ⟨h0, ⟨k, h1, h2⟩, _⟩ : dn (z :: l.reverse) := hd
    have hab : absSum l.reverse = absSum l := by
      have gen : ∀ a : List Int, absSum a.reverse = absSum a := by
        intro a
        induction a with
        | nil => rfl
        | cons x r ih => rw [List.reverse_cons, absSum_append, ih]; simp only [absSum]; omega
      exact gen l
    rw [hab] at h2
    exact ⟨Nat.lt_of_lt_of_le h2 (natAbs_ge_of_dvd h1 h0), h0⟩
  obtain ⟨h1, h2⟩ := gen l p h
  have h3 := isum_le l
  rw [isum_append]
  simp only [isum]
  omega

def sgnI (z : Int) : Int := if z < 0 then -1 else if 0 < z then 1 else 0

set_option maxRecDepth 100000 in
set_option maxHeartbeats 800000 in
theorem sign_walk (l : List Nat) (v : Value) (hl : ∀ x, x ∈ l → fin x) (hn : nov 0 (l.map fval)) (hc : allB l 1 9065746049896808448 = true) (w : World) (hv : FSl w v l) :
    Calls Tryz.prog 130 #[v] w fun e w' => e = .returned (.int .i64 (sgnI (isum (l.map fval)))) ∧ w = w' := by
  have HA := Lib.hid (check_walk l v hl w hv)
  rw [hc] at HA
  obtain ⟨ad, cap, rfl, hcell⟩ := hv.form
  have h32 := hv.1
  by_cases h0 : 0 < l.length
  · obtain ⟨b, off, rfl, _, hcl⟩ := hcell h0
    have hx := hcl (l.length - 1) (by omega)
    have hl1 : ((l.length : Int) == 0) = false := by rw [beq_eq_false_iff_ne]; omega
    have hi1 : ((l.length : Int) - 1).toNat = l.length - 1 := by omega
    have hfx := hl _ (getD_mem (l := l) (k := l.length - 1) (by omega))
    have hlast : l = l.take (l.length - 1) ++ [l.getD (l.length - 1) 0] := by
      have := take_snoc' l (l.length - 1) (by omega)
      rw [show l.length - 1 + 1 = l.length by omega, List.take_of_length_le (Nat.le_refl _)] at this
      exact this
    have hsg := sign_last ((l.take (l.length - 1)).map fval) (fval (l.getD (l.length - 1) 0)) 0 (by
      rw [hlast, List.map_append] at hn; exact hn)
    have hmap : l.map fval = (l.take (l.length - 1)).map fval ++ [fval (l.getD (l.length - 1) 0)] := by
      conv => lhs; rw [hlast]
      rw [List.map_append]; rfl
    rw [← hmap] at hsg
    have hlt : flt (l.getD (l.length - 1) 0) 0 = decide (fval (l.getD (l.length - 1) 0) < 0) := by
      rw [flt_val hfx (by unfold fin; omega)]; rfl
    have HS : Hid (sgnI (isum (l.map fval)) = if flt (l.getD (l.length - 1) 0) 0 then -1 else 1) := by
      unfold Hid sgnI
      rw [hlt]
      by_cases h : fval (l.getD (l.length - 1) 0) < 0
      · rw [if_pos (by omega), if_pos (by simpa using h)]
      · rw [if_neg (by omega), if_pos (by omega), if_neg (by simpa using h)]
    clear hl hn hc hcell hcl hfx hlast hsg hmap hlt hv
    generalize l.getD (l.length - 1) 0 = x at *
    cases h : flt x 0
    all_goals
      rw [h] at HS
      go_enter Tryz.func130, Tryz.ntmps130
      go_wp2_with (go_at_call 169; refine (HA.out).mono ?_; rintro e w' ⟨rfl, rfl⟩)
      go_ret
      exact ⟨by rw [HS.out]; rfl, rfl⟩
  · have hnil : l = [] := List.length_eq_zero_iff.1 (by omega)
    subst hnil
    clear hl hn hc hcell h32 h0 hv
    go_enter Tryz.func130, Tryz.ntmps130
    go_wp2_with (go_at_call 169; refine (HA.out).mono ?_; rintro e w' ⟨rfl, rfl⟩)
    go_ret
    exact ⟨rfl, rfl⟩

set_option maxRecDepth 100000 in
set_option maxHeartbeats 1600000 in
theorem neg_walk (l : List Nat) (v : Value) (w : World) (hlen : l.length ≤ 4000) (hv : FSl w v l) :
    Calls Tryz.prog 128 #[v] w fun e w' => ∃ v', e = .returned v' ∧ FSl w' v' (l.map fopp) ∧ Below w.heap.size w w' := by
  obtain ⟨ad, cap, rfl, hcell⟩ := hv.form
  obtain ⟨i0, hi, hz0, hz1, hz2⟩ := info_parts infoF
  have H64 := Lib.hid hv.2.1
  clear hv
  have HC := Lib.hid hcell
  clear hcell
  go_enter Tryz.func128, Tryz.ntmps128
  go_wp2_with (at_make; refine wpList_make_full _ rfl _ _ 148 rfl w.heap.size 23 i0 (.float .f64 0) 1 Tryz.underlying148 hi hz0 hz1 .i64 .i64 _ _ l.length rfl rfl rfl rfl ?c2 ?c3 (Nat.le_refl _) ?_)
  case c2 => rw [hz2]; omega
  case c3 => unfold maxLen; omega
  intro w0 hown0 hgrow0
  have hb0 : Below w.heap.size w w0 := (Below.refl _ _).grown hgrow0 (Nat.le_refl _) (fun k hk => by cases hk)
  have hsz0 : w.heap.size < w0.heap.size := (World.ownsRow.lt hown0 _ rfl).2
  have hfz0 := fun j => World.ownsRow.frozenAt hown0 j
  have hcl0 : ∀ j, j < l.length → w0.cell? ⟨w.heap.size, j, none⟩ = some (.float .f64 0) := by
    intro j hj
    have := World.ownsRow.cells hown0 (g := w.heap.size) rfl j (.float .f64 0) (by
      show (madeCells #[Value.float .f64 0] l.length).toList[j]? = _
      rw [toList_madeCells_one]; simp [hj])
    by_cases h0 : j = 0
    · subst h0; simpa [Addr.add] using this
    · simpa [Addr.add, h0] using this
  clear hgrow0 hown0
  have HF0 := Lib.hid hfz0
  have HC0 := Lib.hid hcl0
  clear hfz0 hcl0
  go_wp2
  go_loopw [11] (fun i wr => ∃ k : Nat, k ≤ l.length ∧ i = .int .i64 k ∧ Hid (∀ j, wr.frozen? ⟨w.heap.size, j, none⟩ = false) ∧ Hid (∀ j, j < l.length → wr.cell? ⟨w.heap.size, j, none⟩ = some (.float .f64 (if j < k then fopp (l.getD j 0) else 0))) ∧ Below w.heap.size w wr ∧ w.heap.size < wr.heap.size) (fun i _ => l.length - (intOf i).toNat)
  case atStart => exact ⟨0, Nat.zero_le _, rfl, HF0, fun j hj => by rw [HC0.out j hj, if_neg (by omega)], hb0, hsz0⟩
  case round =>
    clear hb0 hsz0 HF0 HC0
    obtain ⟨k, hk, rfl, HF, HCL, hbw, hsz⟩ := hrel
    by_cases hlt : k < l.length
    · obtain ⟨bb, off, rfl, hbb, hc⟩ := HC.out (by omega)
      have hck : wr.cell? ⟨bb, off + k, none⟩ = some (.float .f64 (l.getD k 0)) := (hbw.cell (p := ⟨bb, off + k, none⟩) hbb).trans (hc k hlt)
      have hfk := HF.out k
      obtain ⟨old, hold⟩ : ∃ old, wr.cell? ⟨w.heap.size, k, none⟩ = some old := ⟨_, HCL.out k hlt⟩
      clear hc
      have HX : Hid (∃ x, x = l.getD k 0) := ⟨_, rfl⟩
      generalize hgx : l.getD k 0 = x at *
      have HGX := Lib.hid hgx
      clear hgx
      by_cases hk0 : k = 0
      · subst hk0
        rw [Nat.add_zero] at hck
        go_wp2
        go_roundw
        case rel =>
          refine ⟨0 + 1, by omega, by go_num, fun j => by rw [World.frozen?_setCell]; exact HF.out j, ?_, hbw.setCell (Nat.le_refl _) _, by simp [World.setCell]; exact hsz⟩
          intro j hj
          by_cases hjk : j = 0
          · subst hjk
            rw [World.cell?_setCell_same _ _ _ hold, if_pos (by omega), HGX.out]
          · rw [World.cell?_setCell_other _ _ _ _ (by intro e; injection e; omega), HCL.out j hj, if_neg (by omega), if_neg (by omega)]
        case measure => simp [intOf]; omega
      · go_wp2
        go_roundw
        case rel =>
          refine ⟨k + 1, by omega, by go_num, fun j => by rw [World.frozen?_setCell]; exact HF.out j, ?_, hbw.setCell (Nat.le_refl _) _, by simp [World.setCell]; exact hsz⟩
          intro j hj
          by_cases hjk : j = k
          · subst hjk
            rw [World.cell?_setCell_same _ _ _ hold, if_pos (by omega), HGX.out]
          · rw [World.cell?_setCell_other _ _ _ _ (by intro e; injection e; omega), HCL.out j hj]
            by_cases hjk2 : j < k
            · rw [if_pos hjk2, if_pos (by omega)]
            · rw [if_neg hjk2, if_neg (by omega)]
        case measure => simp [intOf]; omega
    · have hkl : k = l.length := by omega
      subst hkl
      go_wp2
      go_ret
      refine ⟨_, rfl, ⟨by rw [List.length_map]; omega, ?_, Or.inr ⟨w.heap.size, 0, l.length, by rw [List.length_map]; rfl, hsz, ?_⟩⟩, hbw⟩
      · intro x hx
        obtain ⟨y, hy, rfl⟩ := List.mem_map.1 hx
        have := H64.out y hy
        rw [fopp_eq this]; split <;> omega
      · intro i hi
        rw [List.length_map] at hi
        rw [Nat.zero_add, HCL.out i hi, if_pos hi]
        congr 2
        rw [List.getD_eq_getElem?_getD, List.getD_eq_getElem?_getD, List.getElem?_map, List.getElem?_eq_getElem hi]; rfl

end Go.Proofs.YthookkmgmholcaaGreatDoor

/- expand.Scale: what it comes to, and its walk. -/
namespace Go.Proofs.YthookkmgmholcaaGreatDoor
open Go.RowKit Tvf

/-- an expansion that may be multiplied -/
structure SafeL (e : List Nat) : Prop where
  fins : ∀ x, x ∈ e → fin x
  all : allB e 2580562586483294208 6633802251116740608 = true

theorem fin_m450 : fin 2580562586483294208 := by unfold fin; omega
theorem fin_p450 : fin 6633802251116740608 := by unfold fin; omega

theorem safe_of_within {x : Nat} (hx : fin x) (h : withinB x 2580562586483294208 6633802251116740608 = true) : safe x := by
  unfold withinB at h
  rw [Bool.and_eq_true, fge_val (fin_abs hx) fin_m450, fle_val (fin_abs hx) fin_p450, fval_abs, fval_m450, fval_p450] at h
  have h1 := of_decide_eq_true h.1
  have h2 := of_decide_eq_true h.2
  obtain ⟨p, hp⟩ : ∃ p : Nat, p = 2 ^ (unitE - 450) := ⟨_, rfl⟩
  obtain ⟨q, hq⟩ : ∃ q : Nat, q = 2 ^ (unitE + 450) := ⟨_, rfl⟩
  have c1 : (p : Int) = (2 : Int) ^ (unitE - 450) := by rw [hp]; simp
  have c2 : (q : Int) = (2 : Int) ^ (unitE + 450) := by rw [hq]; simp
  rw [← c1] at h1
  rw [← c2] at h2
  refine ⟨hx, ?_, ?_⟩
  · rw [← hp]; omega
  · rw [← hq]; omega

theorem within_of_safe {x : Nat} (h : safe x) : withinB x 2580562586483294208 6633802251116740608 = true := by
  obtain ⟨hx, h1, h2⟩ := h
  unfold withinB
  rw [fge_val (fin_abs hx) fin_m450, fle_val (fin_abs hx) fin_p450, fval_abs, fval_m450, fval_p450]
  obtain ⟨p, hp⟩ : ∃ p : Nat, p = 2 ^ (unitE - 450) := ⟨_, rfl⟩
  obtain ⟨q, hq⟩ : ∃ q : Nat, q = 2 ^ (unitE + 450) := ⟨_, rfl⟩
  have c1 : (p : Int) = (2 : Int) ^ (unitE - 450) := by rw [hp]; simp
  have c2 : (q : Int) = (2 : Int) ^ (unitE + 450) := by rw [hq]; simp
  rw [← c1, ← c2]
  rw [← hp] at h1
  rw [← hq] at h2
  have d1 : decide ((p : Int) ≤ ((fval x).natAbs : Int)) = true := by simp; omega
  have d2 : decide (((fval x).natAbs : Int) ≤ (q : Int)) = true := by simp; omega
  rw [d1, d2]; rfl

theorem SafeL.safe {e : List Nat} (h : SafeL e) : ∀ x, x ∈ e → safe x := by
  intro x hx
  have ha := h.all
  unfold allB at ha
  rw [Bool.and_eq_true, List.all_eq_true] at ha
  obtain ⟨j, hj, rfl⟩ := List.mem_iff_getElem.1 hx
  have := ha.2 j (by simpa using hj)
  unfold goodAt at this
  rw [Bool.and_eq_true] at this
  have h2 := this.1
  rw [List.getD_eq_getElem?_getD, List.getElem?_eq_getElem hj] at h2
  exact safe_of_within (h.fins _ hx) h2

theorem SafeL.len {e : List Nat} (h : SafeL e) : e.length ≤ 64 := by
  have ha := h.all
  unfold allB at ha
  rw [Bool.and_eq_true] at ha
  exact of_decide_eq_true ha.1

/-- the steps of a product with a float -/
def sclSt (b : Nat) : List Nat → List Nat → List Nat
  | o, [] => o
  | o, x :: r => sclSt b (growW (prodHi x b) (growW (prodLo x b) o)) r
def scaleW (e : List Nat) (b : Nat) : List Nat := neatW (sclSt b [] e)

theorem sclSt_snoc (b : Nat) (l : List Nat) (x : Nat) : ∀ o, sclSt b o (l ++ [x]) = growW (prodHi x b) (growW (prodLo x b) (sclSt b o l)) := by
  induction l with
  | nil => intro o; rfl
  | cons y r ih => intro o; exact ih _

def capS : Nat := unitE + 940
theorem capS_le : 2 ^ capS * 2 ^ 40 ≤ 2 ^ capE := by
  rw [← Nat.pow_add]; exact Nat.pow_le_pow_right (by decide) (by decide)

/-- how great the parts of a product are -/
theorem prod_abs {a b : Nat} (ha : safe a) (hb : safe b) : (fval (prodHi a b)).natAbs + (fval (prodLo a b)).natAbs ≤ 2 ^ capS := by
  have hf := prod_facts ha hb
  have v1 := hf.v1
  have v2 := hf.v2
  have hab : (fval a * fval b).natAbs ≤ 2 ^ (unitE + 450) * 2 ^ (unitE + 450) := mul_natAbs_le ha.2.2 hb.2.2
  have hr := rest_small (fval a * fval b)
  have a1 := congrArg Int.natAbs v1
  have a2 := congrArg Int.natAbs v2
  rw [Int.natAbs_mul, natAbs_two_pow] at a1 a2
  have h3 : ((fval (prodHi a b)).natAbs + (fval (prodLo a b)).natAbs) * 2 ^ unitE ≤ 3 * (2 ^ (unitE + 450) * 2 ^ (unitE + 450)) := by
    rw [Nat.add_mul, a1, a2]
    obtain ⟨T, hT⟩ : ∃ T : Nat, T = 2 ^ (unitE + 450) * 2 ^ (unitE + 450) := ⟨_, rfl⟩
    rw [← hT] at hab ⊢
    clear a1 a2 v1 v2 hT
    generalize fval a * fval b = P at *
    omega
  have h4 : 3 * (2 ^ (unitE + 450) * 2 ^ (unitE + 450)) ≤ 2 ^ capS * 2 ^ unitE := by
    have e1 : 3 * (2 ^ (unitE + 450) * 2 ^ (unitE + 450)) ≤ 2 ^ 2 * (2 ^ (unitE + 450) * 2 ^ (unitE + 450)) := Nat.mul_le_mul_right _ (by decide)
    refine Nat.le_trans e1 ?_
    rw [← Nat.pow_add, ← Nat.pow_add, ← Nat.pow_add]
    exact Nat.pow_le_pow_right (by decide) (by decide)
  exact Nat.le_of_mul_le_mul_right (Nat.le_trans h3 h4) (two_pow_pos _)

theorem scl_facts {b : Nat} (hb : safe b) (e : List Nat) : (∀ x, x ∈ e → safe x) → ∀ (o : List Nat) (n : Nat) (S : Int) (A : Nat), GFacts o n S A → n + 2 * e.length ≤ 200 → A + e.length * 2 ^ capS ≤ 100 * 2 ^ capS →
    (∃ S', GFacts (sclSt b o e) (n + 2 * e.length) S' (A + e.length * 2 ^ capS) ∧ S' * 2 ^ unitE = S * 2 ^ unitE + isum (e.map fval) * fval b) ∧
    (∀ k, k < e.length → runOK (prodLo (e.getD k 0) b) (sclSt b o (e.take k)) ∧ runOK (prodHi (e.getD k 0) b) (growW (prodLo (e.getD k 0) b) (sclSt b o (e.take k)))) ∧
    (∀ m : Nat, (∀ x, x ∈ o → (2 : Int) ^ m ∣ fval x) → (∀ x, x ∈ e → (2 : Int) ^ (m + unitE) ∣ fval x * fval b) → ∀ y, y ∈ sclSt b o e → (2 : Int) ^ m ∣ fval y) := by
  induction e with
  | nil => intro _ o n S A h _ _; exact ⟨⟨S, by simpa [sclSt] using h, by simp [isum]⟩, fun k hk => by simp at hk, fun m h _ => h⟩
  | cons x r ih =>
    intro he o n S A h hn hA
    have hx := he x (List.mem_cons_self ..)
    have hf := prod_facts hx hb
    have hpa := prod_abs hx hb
    simp only [List.length_cons] at hn hA
    have hA' : A + (r.length + 1) * 2 ^ capS = A + r.length * 2 ^ capS + 2 ^ capS := by rw [Nat.add_mul, Nat.one_mul]; omega
    rw [hA'] at hA
    have hbig : 100 * 2 ^ capS ≤ 2 ^ capE * 256 := by have := capS_le; generalize 2 ^ capS = P at *; omega
    obtain ⟨r1, g1⟩ := grow_step h hf.p9 (by omega) (by generalize 2 ^ capE = Q at *; generalize 2 ^ capS = P at *; generalize (fval (prodHi x b)).natAbs = H at *; generalize (fval (prodLo x b)).natAbs = L at *; generalize r.length * P = R at *; omega)
    obtain ⟨r2, g2⟩ := grow_step g1 hf.p1 (by omega) (by
      show _ + (fval (prodHi x b)).natAbs ≤ _
      generalize 2 ^ capE = Q at *; generalize 2 ^ capS = P at *; generalize (fval (prodHi x b)).natAbs = H at *; generalize (fval (prodLo x b)).natAbs = L at *; generalize r.length * P = R at *; omega)
    -- a weaker bound
    have g3 : GFacts (growW (prodHi x b) (growW (prodLo x b) o)) (n + 2) (S + fval (prodLo x b) + fval (prodHi x b)) (A + 2 ^ capS) := by
      refine ⟨g2.fins, g2.novs, g2.len, g2.sum, Nat.le_trans g2.abs ?_⟩
      refine Nat.mul_le_mul_left _ ?_
      show A + (fval (prodLo x b)).natAbs + (fval (prodHi x b)).natAbs ≤ _
      omega
    obtain ⟨⟨S', i1, i2⟩, i3, i4⟩ := ih (fun y hy => he y (List.mem_cons_of_mem _ hy)) _ _ _ _ g3 (by omega) (by generalize 2 ^ capS = P at *; generalize r.length * P = R at *; omega)
    refine ⟨⟨S', ?_, ?_⟩, ?_, ?_⟩
    · have e1 : n + 2 * (x :: r).length = n + 2 + 2 * r.length := by simp only [List.length_cons]; omega
      have e2 : A + (x :: r).length * 2 ^ capS = A + 2 ^ capS + r.length * 2 ^ capS := by simp only [List.length_cons]; rw [hA']; omega
      rw [e1, e2]
      exact i1
    · rw [i2]
      have v1 := hf.v1
      have v2 := hf.v2
      simp only [List.map_cons, isum]
      rw [Int.add_mul, Int.add_mul, v1, v2, Int.add_mul]
      omega
    · intro k hk
      cases k with
      | zero => exact ⟨r1, r2⟩
      | succ k =>
        have := i3 k (by simp only [List.length_cons] at hk; omega)
        exact this
    · intro m ho hxb
      refine i4 m ?_ (fun y hy => hxb y (List.mem_cons_of_mem _ hy))
      have hd := hxb x (List.mem_cons_self ..)
      have dv : ∀ z y : Int, y * 2 ^ unitE = z → (2 : Int) ^ (m + unitE) ∣ z → (2 : Int) ^ m ∣ y := by
        intro z y h1 h2
        obtain ⟨c, hc⟩ := h2
        refine ⟨c, ?_⟩
        rw [← h1, Int.pow_add] at hc
        apply Int.eq_of_mul_eq_mul_right (Int.ne_of_gt (Int.pow_pos (by omega) : (0 : Int) < 2 ^ unitE))
        rw [hc]; grind
      have d1 : (2 : Int) ^ m ∣ fval (prodHi x b) := dv _ _ hf.v1 (rn_dvd hd)
      have d2 : (2 : Int) ^ m ∣ fval (prodLo x b) := dv _ _ hf.v2 (Int.dvd_sub hd (rn_dvd hd))
      exact growW_dvd r2 m d1 (growW_dvd r1 m d2 ho)

theorem GFacts.nil : GFacts [] 0 0 0 := by
  refine ⟨?_, trivial, by simp, rfl, by simp [absSum]⟩
  intro x hx; cases hx

theorem scale_facts {e : List Nat} {b : Nat} (he : SafeL e) (hb : safe b) :
    runN (sclSt b [] e) ∧ (∃ S, ExpFacts (scaleW e b) S ∧ S * 2 ^ unitE = isum (e.map fval) * fval b) ∧
    (sclSt b [] e).length ≤ 1000 ∧ (∀ x, x ∈ sclSt b [] e → fin x) ∧
    (∀ k, k < e.length → runOK (prodLo (e.getD k 0) b) (sclSt b [] (e.take k)) ∧ runOK (prodHi (e.getD k 0) b) (growW (prodLo (e.getD k 0) b) (sclSt b [] (e.take k)))) ∧
    (∀ m : Nat, (∀ x, x ∈ e → (2 : Int) ^ (m + unitE) ∣ fval x * fval b) → ∀ y, y ∈ scaleW e b → (2 : Int) ^ m ∣ fval y) ∧
    absSum ((scaleW e b).map fval) ≤ 2 ^ capS * 1024 := by
  have hlen := he.len
  have hmul : e.length * 2 ^ capS ≤ 64 * 2 ^ capS := Nat.mul_le_mul_right _ hlen
  obtain ⟨⟨S, g, gs⟩, h2, h3⟩ := scl_facts hb e he.safe [] 0 0 0 GFacts.nil (by omega) (by generalize 2 ^ capS = P at *; generalize e.length * P = R at *; omega)
  have hw : absSum ((sclSt b [] e).map fval) ≤ 2 * (64 * 2 ^ capS) := by
    have h1 := g.abs
    have h4 : (2 ^ 40 + 2 * (0 + 2 * e.length)) * (0 + e.length * 2 ^ capS) ≤ 2 ^ 41 * (64 * 2 ^ capS) := Nat.mul_le_mul (by omega) (by omega)
    generalize 64 * 2 ^ capS = T at *
    omega
  have hb2 : absSum ((sclSt b [] e).map fval) ≤ 2 ^ capE * 256 := by
    have := capS_le
    generalize 2 ^ capS = P at *; omega
  have hr : runN (sclSt b [] e) := runN_of capE capE_ok _ g.fins g.novs (by have := g.len; omega) (Nat.le_trans hb2 (Nat.mul_le_mul_left _ (by decide)))
  have nf := neat_facts hr g.novs (by have := g.len; omega) (Nat.le_trans hb2 capE_big)
  refine ⟨hr, ⟨S, ⟨nf.fins, nf.nz, nf.novs, by unfold scaleW; rw [nf.sum, g.sum], by have := nf.abs; rw [g.sum] at this; exact this, nf.all⟩, by rw [gs]; simp⟩, by have := g.len; omega, g.fins, h2, ?_, ?_⟩
  · intro m hm
    exact nf.dvd m (h3 m (fun x hx => by cases hx) hm)
  · have n5 := nf.abs
    have n6 := isum_le ((sclSt b [] e).map fval)
    unfold scaleW
    generalize 2 ^ capS = P at *
    omega

set_option maxRecDepth 100000 in
set_option maxHeartbeats 2000000 in
theorem scale_walk (e : List Nat) (v : Value) (b : Nat) (he : SafeL e) (hb : safe b) (w : World) (hv : FSl w v e) :
    Calls Tryz.prog 168 #[v, .float .f64 b] w fun r w' => ∃ v', r = .returned (.tuple #[v', .bool true]) ∧ FSl w' v' (scaleW e b) ∧ Below w.heap.size w w' := by
  have HSA := Lib.hid (safe_all_walk e v he.fins w hv)
  rw [he.all] at HSA
  have HW : Hid (∀ w, Calls Tryz.prog 164 #[.float .f64 b, .float .f64 2580562586483294208, .float .f64 6633802251116740608] w fun r w' => r = .returned (.bool true) ∧ w = w') := fun w => by
    have := within_any b 2580562586483294208 6633802251116740608 hb.1.1 w
    rw [within_of_safe hb] at this; exact this
  have hb0 : fval b ≠ 0 := by
    intro h
    have h2 := hb.2.1
    rw [h] at h2
    have := two_pow_pos (unitE - 450)
    simp at h2
  have hbn : fne b 0 = true := by rw [fne_zero hb.1]; simpa using hb0
  have hbe : feq b 0 = false := by rw [feq_zero hb.1]; simpa using hb0
  obtain ⟨f1, ⟨S, f2, _⟩, f3, f4, f5, _, _⟩ := scale_facts he hb
  have HPR := Lib.hid (fun x hx => prod_walk x b (he.safe x hx) hb)
  have HR := Lib.hid f5
  have hel := he.len
  obtain ⟨ad, cap, rfl, hcell⟩ := hv.form
  have HC := Lib.hid hcell
  have HN : Hid (∀ w v, FSl w v (sclSt b [] e) → Calls Tryz.prog 207 #[v] w fun r w' => ∃ v', r = .returned v' ∧ OwnF w' w.heap.size v' (scaleW e b) ∧ Below w.heap.size w w') :=
    fun w v hv => neat_walk (sclSt b [] e) v f1 (by omega) w hv
  have HF := Lib.hid f2
  have HL := Lib.hid f3
  have H64 : Hid (∀ x, x ∈ sclSt b [] e → x < 2 ^ 64) := fun x hx => (f4 x hx).1
  have hl64 : (scaleW e b).length ≤ 64 := by
    have := f2.all
    unfold allB at this
    rw [Bool.and_eq_true] at this
    exact of_decide_eq_true this.1
  have HPL := Lib.hid hl64
  clear he hb hv hcell f1 f2 f3 f4 f5 hl64 hb0
  go_enter Tryz.func168, Tryz.ntmps168
  go_wp2_with (first | (go_at_call 167; refine (HSA.out).mono ?_; rintro r w' ⟨rfl, rfl⟩) | (go_at_call 164; refine (HW.out _).mono ?_; rintro r w' ⟨rfl, rfl⟩))
  go_loopw [6, 29] (fun out i wr => ∃ n : Nat, n ≤ e.length ∧ i = .int .i64 n ∧ Hid ((sclSt b [] (e.take n)).length ≤ 2 * n) ∧ Hid (FSl wr out (sclSt b [] (e.take n))) ∧ Below w.heap.size w wr) (fun _ i _ => e.length - (intOf i).toNat)
  case atStart => exact ⟨0, Nat.zero_le _, rfl, by simp [Hid, sclSt], ⟨by simp [sclSt], by simp [sclSt], Or.inl ⟨rfl, rfl⟩⟩, Below.refl _ _⟩
  case round =>
    obtain ⟨n, hn, rfl, HLn, HO, hbw⟩ := hrel
    by_cases hlt : n < e.length
    · obtain ⟨bb, off, rfl, hbb, hc⟩ := HC.out (by omega)
      have hck : wr.cell? ⟨bb, off + n, none⟩ = some (.float .f64 (e.getD n 0)) := (hbw.cell (p := ⟨bb, off + n, none⟩) hbb).trans (hc n hlt)
      have HP := Lib.hid (HPR.out (e.getD n 0) (getD_mem hlt))
      obtain ⟨r1, r2⟩ := HR.out n hlt
      have hsn := sclSt_snoc b (e.take n) (e.getD n 0) []
      rw [← take_snoc' e n hlt] at hsn
      have hl1 := HLn.out
      have hgl1 := growW_len (prodLo (e.getD n 0) b) (sclSt b [] (e.take n))
      have hgl2 := growW_len (prodHi (e.getD n 0) b) (growW (prodLo (e.getD n 0) b) (sclSt b [] (e.take n)))
      have HGL : Hid ((sclSt b [] (e.take (n + 1))).length ≤ 2 * (n + 1)) := by rw [hsn]; unfold Hid; omega
      have HS := Lib.hid hsn
      have G1 := Lib.hid (fun w v => grow_walk (sclSt b [] (e.take n)) v (prodLo (e.getD n 0) b) r1 (by omega) w)
      have G2 := Lib.hid (fun w v => grow_walk (growW (prodLo (e.getD n 0) b) (sclSt b [] (e.take n))) v (prodHi (e.getD n 0) b) r2 (by omega) w)
      have F1 : Hid (∀ x, x ∈ growW (prodLo (e.getD n 0) b) (sclSt b [] (e.take n)) → x < 2 ^ 64) := fun x hx => ((growW_vals r1).2 x hx).1
      have F2 : Hid (∀ x, x ∈ growW (prodHi (e.getD n 0) b) (growW (prodLo (e.getD n 0) b) (sclSt b [] (e.take n))) → x < 2 ^ 64) := fun x hx => ((growW_vals r2).2 x hx).1
      have L1 : Hid ((growW (prodLo (e.getD n 0) b) (sclSt b [] (e.take n))).length ≤ 4294967296) := by unfold Hid; omega
      have L2 : Hid ((growW (prodHi (e.getD n 0) b) (growW (prodLo (e.getD n 0) b) (sclSt b [] (e.take n)))).length ≤ 4294967296) := by unfold Hid; omega
      clear hc r1 r2 hsn hl1 hgl1 hgl2 HR HN H64 HL
      generalize prodLo (e.getD n 0) b = lo at *
      generalize prodHi (e.getD n 0) b = hi at *
      generalize e.getD n 0 = x at *
      generalize sclSt b [] (e.take n) = o at *
      generalize hO1 : growW lo o = o1 at *
      clear hO1
      generalize hO2 : growW hi o1 = o2 at *
      clear hO2
      go_wp2_with (first
        | (go_at_call 208; refine (HP.out _).mono ?_; rintro r w1 ⟨rfl, hb1⟩; have ho1 := HO.out.below hb1)
        | (go_at_call 205; (first
            | (with_reducible refine (G1.out _ _ ho1).mono ?_; rintro r w2 ⟨v2, rfl, hown2, hb2⟩; have ho2 := FSl_of_own hown2 L1.out F1.out)
            | (with_reducible refine (G2.out _ _ ho2).mono ?_; rintro r w3 ⟨v3, rfl, hown3, hb3⟩; have ho3 := FSl_of_own hown3 L2.out F2.out))))
      have s1 := hb1.size
      have s2 := hb2.size
      have s3 := hb3.size
      have s0 := hbw.size
      go_roundw
      case rel => exact ⟨n + 1, by omega, by go_num, HGL, by rw [HS.out]; exact ho3, ((hbw.trans (hb1.mono s0)).trans (hb2.mono (by omega))).trans (hb3.mono (by omega))⟩
      case measure => simp [intOf]; omega
    · have hnl : n = e.length := by omega
      subst hnl
      have HO2 : Hid (FSl wr u6 (sclSt b [] e)) := by have := HO.out; rw [List.take_of_length_le (Nat.le_refl _)] at this; exact this
      clear HO HLn HR
      go_wp2_with (first
        | (go_at_call 207; refine (HN.out _ _ HO2.out).mono ?_; rintro r w1 ⟨v1, rfl, hown1, hb1⟩; have hfs := FSl_of_own hown1 (by have := HPL.out; omega) (fun x hx => (HF.out.fins x hx).1))
        | (go_at_call 206; refine (apart_walk (scaleW e b) _ HF.out.fins HF.out.all _ hfs).mono ?_; rintro r w2 ⟨rfl, rfl⟩))
      go_ret2
      exact ⟨_, rfl, hfs, hbw.trans (hb1.mono hbw.size)⟩

end Go.Proofs.YthookkmgmholcaaGreatDoor

/- expand.Mul, expand.Cmp: what they come to, and their walks. -/
namespace Go.Proofs.YthookkmgmholcaaGreatDoor
open Go.RowKit Tvf

def mulSt (e : List Nat) : List Nat → List Nat → List Nat
  | o, [] => o
  | o, y :: r => mulSt e (plusW o (scaleW e y)) r
def mulW (e f : List Nat) : List Nat := mulSt e [] f

theorem mulSt_snoc (e : List Nat) (l : List Nat) (x : Nat) : ∀ o, mulSt e o (l ++ [x]) = plusW (mulSt e o l) (scaleW e x) := by
  induction l with
  | nil => intro o; rfl
  | cons y r ih => intro o; exact ih _

theorem allB_len {l : List Nat} {a b : Nat} (h : allB l a b = true) : l.length ≤ 64 := by
  unfold allB at h
  rw [Bool.and_eq_true] at h
  exact of_decide_eq_true h.1

theorem exp_nil : ExpFacts [] 0 := by
  refine ⟨?_, ?_, trivial, rfl, by simp [absSum], all_true (by simp) (by simp)⟩
  · intro x hx; cases hx
  · intro x hx; cases hx

theorem absSum_safe {e : List Nat} (h : ∀ x, x ∈ e → safe x) : absSum (e.map fval) ≤ e.length * 2 ^ (unitE + 450) := by
  induction e with
  | nil => simp [absSum]
  | cons x r ih =>
    have := ih (fun y hy => h y (List.mem_cons_of_mem _ hy))
    have hx := (h x (List.mem_cons_self ..)).2.2
    simp only [List.map_cons, absSum, List.length_cons]
    rw [Nat.add_mul, Nat.one_mul]; exact Nat.le_trans (Nat.add_le_add hx this) (by rw [Nat.add_comm]; exact Nat.le_refl _)

theorem mul_bound {S p q : Int} {a b : Nat} (h : S * 2 ^ unitE = p * q) (hp : p.natAbs ≤ a * 2 ^ (unitE + 450)) (hq : q.natAbs ≤ b * 2 ^ (unitE + 450)) (ha : a ≤ 64) (hb : b ≤ 64) : S.natAbs ≤ 2 ^ capS := by
  have h1 := congrArg Int.natAbs h
  rw [Int.natAbs_mul, natAbs_two_pow] at h1
  have h2 : (p * q).natAbs ≤ (2 ^ 6 * 2 ^ (unitE + 450)) * (2 ^ 6 * 2 ^ (unitE + 450)) :=
    mul_natAbs_le (Nat.le_trans hp (Nat.mul_le_mul_right _ ha)) (Nat.le_trans hq (Nat.mul_le_mul_right _ hb))
  have h3 : (2 ^ 6 * 2 ^ (unitE + 450)) * (2 ^ 6 * 2 ^ (unitE + 450)) ≤ 2 ^ capS * 2 ^ unitE := by
    rw [← Nat.pow_add, ← Nat.pow_add, ← Nat.pow_add]
    exact Nat.pow_le_pow_right (by decide) (by decide)
  refine Nat.le_of_mul_le_mul_right ?_ (two_pow_pos unitE)
  rw [h1]
  exact Nat.le_trans h2 h3

theorem cap_sum {a b : Nat} (ha : a ≤ 8 * 2 ^ capS) (hb : b ≤ 2 ^ capS * 1024) : a + b ≤ 2 ^ capE * 128 := by
  have := capS_le
  generalize 2 ^ capE = Q at *
  generalize 2 ^ capS = P at *
  omega

theorem mul_steps {e : List Nat} (he : SafeL e) (f : List Nat) (hf : ∀ x, x ∈ f → safe x) (hfl : f.length ≤ 64) (n : Nat) (hn : n ≤ f.length) :
    ∃ S, ExpFacts (mulSt e [] (f.take n)) S ∧ S * 2 ^ unitE = isum (e.map fval) * isum ((f.take n).map fval) ∧
      (∀ m : Nat, (∀ x, x ∈ e → ∀ y, y ∈ f → (2 : Int) ^ (m + unitE) ∣ fval x * fval y) → ∀ z, z ∈ mulSt e [] (f.take n) → (2 : Int) ^ m ∣ fval z) ∧
      (∀ T, ExpFacts (mulSt e [] (f.take n)) T → absSum ((mulSt e [] (f.take n)).map fval) ≤ 8 * 2 ^ capS) := by
  have hea := absSum_safe he.safe
  have hel := he.len
  have hes := isum_le (e.map fval)
  have bound : ∀ n S, n ≤ f.length → S * 2 ^ unitE = isum (e.map fval) * isum ((f.take n).map fval) → S.natAbs ≤ 2 ^ capS := by
    intro n S hn h
    have hft : ∀ x, x ∈ f.take n → safe x := fun x hx => hf x (List.mem_of_mem_take hx)
    have h2 := absSum_safe hft
    have h3 := isum_le ((f.take n).map fval)
    exact mul_bound h (Nat.le_trans hes hea) (Nat.le_trans h3 h2) hel (by rw [List.length_take]; omega)
  induction n with
  | zero =>
    refine ⟨0, by simpa [mulSt] using exp_nil, by simp [isum], ?_, fun T _ => by simp [mulSt, absSum]⟩
    intro m _ z hz; simp [mulSt] at hz
  | succ n ih =>
    obtain ⟨S, g1, g2, g3, g4⟩ := ih (by omega)
    have hlt : n < f.length := by omega
    have hy := hf _ (getD_mem hlt)
    obtain ⟨_, ⟨S2, s1, s2⟩, _, _, _, s3, s4⟩ := scale_facts he hy
    have hS := bound n S (by omega) g2
    have ga := g1.abs
    have hpf := plus_facts (e := mulSt e [] (f.take n)) (f := scaleW e (f.getD n 0)) g1.fins s1.fins (by have := allB_len g1.all; have := allB_len s1.all; omega) (cap_sum (Nat.le_trans ga (Nat.mul_le_mul_left _ hS)) s4)
    have hsn := mulSt_snoc e (f.take n) (f.getD n 0) []
    rw [← take_snoc' f n hlt] at hsn
    have hts := (take_sum f n hlt).1
    rw [hsn]
    have hnew := hpf.2.1
    rw [g1.sum, s1.sum] at hnew
    have hq : (S + S2) * 2 ^ unitE = isum (e.map fval) * isum ((f.take (n + 1)).map fval) := by
      rw [hts, Int.add_mul, g2, s2, Int.mul_add]
    refine ⟨S + S2, hnew, hq, ?_, ?_⟩
    · intro m hm
      exact hpf.2.2 m (g3 m hm) (s3 m (fun x hx => hm x hx _ (getD_mem hlt)))
    · intro T hT
      have hb := bound (n + 1) (S + S2) hn hq
      exact Nat.le_trans hnew.abs (Nat.mul_le_mul_left _ hb)

theorem mul_facts {e f : List Nat} (he : SafeL e) (hf : SafeL f) : ∃ S, ExpFacts (mulW e f) S ∧ S * 2 ^ unitE = isum (e.map fval) * isum (f.map fval) ∧ S.natAbs ≤ 2 ^ capS ∧
      (∀ m : Nat, (∀ x, x ∈ e → ∀ y, y ∈ f → (2 : Int) ^ (m + unitE) ∣ fval x * fval y) → ∀ z, z ∈ mulW e f → (2 : Int) ^ m ∣ fval z) := by
  obtain ⟨S, h1, h2, h3, _⟩ := mul_steps he f hf.safe hf.len f.length (Nat.le_refl _)
  rw [List.take_of_length_le (Nat.le_refl _)] at h1 h2 h3
  refine ⟨S, h1, h2, ?_, h3⟩
  exact mul_bound h2 (Nat.le_trans (isum_le _) (absSum_safe he.safe)) (Nat.le_trans (isum_le _) (absSum_safe hf.safe)) he.len hf.len

set_option maxRecDepth 100000 in
set_option maxHeartbeats 2000000 in
theorem mul_walk (e f : List Nat) (ve vf : Value) (he : SafeL e) (hf : SafeL f) (w : World) (hve : FSl w ve e) (hvf : FSl w vf f) :
    Calls Tryz.prog 126 #[ve, vf] w fun r w' => ∃ v', r = .returned (.tuple #[v', .bool true]) ∧ FSl w' v' (mulW e f) ∧ Below w.heap.size w w' := by
  have HSe := Lib.hid (safe_all_walk e ve he.fins w hve)
  have HSf := Lib.hid (safe_all_walk f vf hf.fins w hvf)
  rw [he.all] at HSe
  rw [hf.all] at HSf
  have HST := Lib.hid (fun n hn => mul_steps he f hf.safe hf.len n hn)
  have HSC := Lib.hid (fun y hy => scale_walk e ve y he (hf.safe y hy))
  have HSF := Lib.hid (fun y hy => scale_facts he (hf.safe y hy))
  have hfl := hf.len
  have HVE := Lib.hid hve
  obtain ⟨ad, cap, rfl, hcell⟩ := hvf.form
  have HC := Lib.hid hcell
  clear hve hvf hcell he hf
  go_enter Tryz.func126, Tryz.ntmps126
  go_wp2_with (go_at_call 167; (first | (with_reducible refine (HSe.out).mono ?_) | (with_reducible refine (HSf.out).mono ?_)); rintro r w' ⟨rfl, rfl⟩)
  go_loopw [6, 21] (fun out i wr => ∃ n : Nat, n ≤ f.length ∧ i = .int .i64 n ∧ Hid (FSl wr out (mulSt e [] (f.take n))) ∧ Below w.heap.size w wr) (fun _ i _ => f.length - (intOf i).toNat)
  case atStart => exact ⟨0, Nat.zero_le _, rfl, ⟨by simp [mulSt], by simp [mulSt], Or.inl ⟨rfl, rfl⟩⟩, Below.refl _ _⟩
  case round =>
    obtain ⟨n, hn, rfl, HO, hbw⟩ := hrel
    by_cases hlt : n < f.length
    · obtain ⟨bb, off, rfl, hbb, hc⟩ := HC.out (by omega)
      have hck : wr.cell? ⟨bb, off + n, none⟩ = some (.float .f64 (f.getD n 0)) := (hbw.cell (p := ⟨bb, off + n, none⟩) hbb).trans (hc n hlt)
      obtain ⟨S, g1, g2, _, g4⟩ := HST.out n hn
      obtain ⟨_, ⟨S2, s1, _⟩, _, _, _, _, s4⟩ := HSF.out (f.getD n 0) (getD_mem hlt)
      have ga := g4 S g1
      have hA : absSum ((mulSt e [] (f.take n)).map fval) + absSum ((scaleW e (f.getD n 0)).map fval) ≤ 2 ^ capE * 128 := cap_sum ga s4
      have hsn := mulSt_snoc e (f.take n) (f.getD n 0) []
      rw [← take_snoc' f n hlt] at hsn
      have HS := Lib.hid hsn
      have HSC1 := Lib.hid (HSC.out (f.getD n 0) (getD_mem hlt))
      have HPL := Lib.hid (fun w va vb => plus_walk (mulSt e [] (f.take n)) (scaleW e (f.getD n 0)) va vb g1.fins s1.fins (by have := allB_len g1.all; have := allB_len s1.all; omega) hA w)
      clear hc g1 g2 g4 s1 s4 ga hA hsn HST HSF HSC
      generalize mulSt e [] (f.take n) = o at *
      generalize scaleW e (f.getD n 0) = sc at *
      generalize f.getD n 0 = y at *
      go_wp2_with (first
        | (go_at_call 168; refine (HSC1.out _ (HVE.out.below hbw)).mono ?_; rintro r w1 ⟨v1, rfl, hf1, hb1⟩; have ho1 := HO.out.below hb1)
        | (go_at_call 166; refine (HPL.out _ _ _ ho1 hf1).mono ?_; rintro r w2 ⟨v2, rfl, hf2, hb2⟩))
      have s1 := hb1.size
      have s0 := hbw.size
      go_roundw
      case rel => exact ⟨n + 1, by omega, by go_num, by rw [HS.out]; exact hf2, (hbw.trans (hb1.mono s0)).trans (hb2.mono (by omega))⟩
      case measure => simp [intOf]; omega
    · have hnl : n = f.length := by omega
      subst hnl
      have HO2 : Hid (FSl wr u6 (mulW e f)) := by have := HO.out; rw [List.take_of_length_le (Nat.le_refl _)] at this; exact this
      clear HO HST HSC HSF
      go_wp2
      go_ret2
      exact ⟨_, rfl, HO2, hbw⟩

theorem isum_neg (l : List Nat) (h : ∀ x, x ∈ l → fin x) : isum ((l.map fopp).map fval) = -isum (l.map fval) ∧ absSum ((l.map fopp).map fval) = absSum (l.map fval) := by
  induction l with
  | nil => exact ⟨rfl, rfl⟩
  | cons x r ih =>
    obtain ⟨h1, h2⟩ := ih (fun y hy => h y (List.mem_cons_of_mem _ hy))
    have hx := fopp_val (h x (List.mem_cons_self ..)).1
    simp only [List.map_cons, isum, absSum, h1, h2, hx]
    exact ⟨by omega, by omega⟩

/-- what is below 2^990 may be -/
theorem check_true {l : List Nat} {S : Int} (h : ExpFacts l S) (hS : S.natAbs ≤ 2 ^ capS * 16) : allB l 1 9065746049896808448 = true := by
  have hc : fin 9065746049896808448 := by unfold fin; omega
  have hv : fval 9065746049896808448 = 2 ^ (unitE + 990) := fval_pow (F := 2013) (by unfold fin; omega) (by omega) (by omega) (by omega) (by omega) rfl
  refine all_true (allB_len h.all) (good_of_nov l h.fins 0 h.novs _ _ ?_)
  intro x hx
  have hf := h.fins x hx
  unfold withinB
  rw [fge_val (fin_abs hf) fin_tiny, fval_abs, fval_tiny, fle_val (fin_abs hf) hc, fval_abs, hv]
  have h1 := absSum_mem (List.mem_map_of_mem (f := fval) hx)
  have h2 := h.abs
  have h0 := h.nz x hx
  have h3 : 2 ^ capS * 128 ≤ 2 ^ (unitE + 990) := by
    rw [show (128 : Nat) = 2 ^ 7 from rfl, ← Nat.pow_add]
    exact Nat.pow_le_pow_right (by decide) (by decide)
  obtain ⟨q, hq⟩ : ∃ q : Nat, q = 2 ^ (unitE + 990) := ⟨_, rfl⟩
  have c2 : (q : Int) = (2 : Int) ^ (unitE + 990) := by rw [hq]; simp
  rw [← c2]
  rw [← hq] at h3
  clear c2 hq hv
  have d1 : decide ((1 : Int) ≤ ((fval x).natAbs : Int)) = true := by simp; omega
  have d2 : decide (((fval x).natAbs : Int) ≤ (q : Int)) = true := by simp; omega
  rw [d1, d2]; rfl

theorem sgnI_mul {z : Int} {k : Nat} : sgnI (z * 2 ^ k) = sgnI z := by
  have hp : (0 : Int) < 2 ^ k := Int.pow_pos (by omega)
  unfold sgnI
  by_cases h1 : z < 0
  · rw [if_pos h1, if_pos (Int.mul_neg_of_neg_of_pos h1 hp)]
  · rw [if_neg h1, if_neg (by have := Int.mul_nonneg (show 0 ≤ z by omega) (Int.le_of_lt hp); omega)]
    by_cases h2 : 0 < z
    · rw [if_pos h2, if_pos (Int.mul_pos h2 hp)]
    · have : z = 0 := by omega
      subst this; simp

set_option maxRecDepth 100000 in
set_option maxHeartbeats 2000000 in
theorem cmp_walk (e f : List Nat) (ve vf : Value) (S T : Int) (he : ExpFacts e S) (hf : ExpFacts f T) (hS : S.natAbs ≤ 2 ^ capS) (hT : T.natAbs ≤ 2 ^ capS) (w : World) (hve : FSl w ve e) (hvf : FSl w vf f) :
    Calls Tryz.prog 145 #[ve, vf] w fun r w' => r = .returned (.int .i64 (sgnI (S - T))) ∧ Below w.heap.size w w' := by
  have hS2 : S.natAbs ≤ 2 ^ capS * 16 := by generalize 2 ^ capS = P at *; omega
  have hT2 : T.natAbs ≤ 2 ^ capS * 16 := by generalize 2 ^ capS = P at *; omega
  have HCe := Lib.hid (check_walk e ve he.fins w hve)
  have HCf := Lib.hid (check_walk f vf hf.fins w hvf)
  rw [check_true he hS2] at HCe
  rw [check_true hf hT2] at HCf
  have hle := allB_len he.all
  have hlf := allB_len hf.all
  have HN := Lib.hid (neg_walk f vf w (by omega) hvf)
  have hfn : ∀ x, x ∈ f.map fopp → fin x := fun x hx => by
    obtain ⟨y, hy, rfl⟩ := List.mem_map.1 hx; exact fopp_fin (hf.fins y hy)
  obtain ⟨n1, n2⟩ := isum_neg f hf.fins
  have hA : absSum (e.map fval) + absSum ((f.map fopp).map fval) ≤ 2 ^ capE * 128 := by
    rw [n2]
    refine cap_sum (Nat.le_trans he.abs (Nat.mul_le_mul_left _ hS)) (Nat.le_trans hf.abs ?_)
    generalize 2 ^ capS = P at *; omega
  have hpl : e.length + (f.map fopp).length ≤ 1000 := by rw [List.length_map]; omega
  obtain ⟨_, hp, _⟩ := plus_facts he.fins hfn hpl hA
  rw [n1, he.sum, hf.sum] at hp
  have HPL := Lib.hid (fun w va vb => plus_walk e (f.map fopp) va vb he.fins hfn hpl hA w)
  have hchk := check_true hp (by generalize 2 ^ capS = P at *; omega)
  have HSG : Hid (∀ w v, FSl w v (plusW e (f.map fopp)) → Calls Tryz.prog 130 #[v] w fun r w' => r = .returned (.int .i64 (sgnI (S - T))) ∧ w = w') := fun w v hv => by
    have := sign_walk (plusW e (f.map fopp)) v hp.fins hp.novs hchk w hv
    rw [hp.sum, show S + -T = S - T by omega] at this
    exact this
  have HVE := Lib.hid hve
  clear he hf hS hT hS2 hT2 hvf hfn n1 n2 hA hpl hp hchk hle hlf hve
  generalize sgnI (S - T) = R at *
  go_enter Tryz.func145, Tryz.ntmps145
  go_wp2_with (first
    | (go_at_call 169; (first | (with_reducible refine (HCe.out).mono ?_) | (with_reducible refine (HCf.out).mono ?_)); rintro r w' ⟨rfl, rfl⟩)
    | (go_at_call 128; refine (HN.out).mono ?_; rintro r w1 ⟨v1, rfl, hf1, hb1⟩; have he1 := HVE.out.below hb1)
    | (go_at_call 166; refine (HPL.out _ _ _ he1 hf1).mono ?_; rintro r w2 ⟨v2, rfl, hf2, hb2⟩)
    | (go_at_call 130; refine (HSG.out _ _ hf2).mono ?_; rintro r w3 ⟨rfl, rfl⟩))
  go_ret
  exact ⟨rfl, hb1.trans (hb2.mono hb1.size)⟩

end Go.Proofs.YthookkmgmholcaaGreatDoor
