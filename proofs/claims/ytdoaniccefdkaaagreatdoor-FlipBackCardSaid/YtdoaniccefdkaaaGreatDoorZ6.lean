/- Part of the proof. No conditions. -/
import Derived.Test.YtdoaniccefdkaaaGreatDoorZ5
import Derived.Deep.RegionHeld

set_option linter.all false
/- expand.plus: what it comes to, and its walk. -/
namespace Go.Proofs.YtdoaniccefdkaaaGreatDoor
open Go.RowKit Tvf

/-- the merge, behind n steps: how many of the first, how many of the second, what was grown -/
def mst (e f : List Nat) : Nat → Nat × Nat × List Nat
  | 0 => (0, 0, [])
  | n + 1 => if pickB e f (mst e f n).1 (mst e f n).2.1 then ((mst e f n).1 + 1, (mst e f n).2.1, growW (e.getD (mst e f n).1 0) (mst e f n).2.2)
      else ((mst e f n).1, (mst e f n).2.1 + 1, growW (f.getD (mst e f n).2.1 0) (mst e f n).2.2)

theorem mst_places (e f : List Nat) (n : Nat) (hn : n ≤ e.length + f.length) : (mst e f n).1 ≤ e.length ∧ (mst e f n).2.1 ≤ f.length ∧ (mst e f n).1 + (mst e f n).2.1 = n := by
  induction n with
  | zero => exact ⟨Nat.zero_le _, Nat.zero_le _, rfl⟩
  | succ n ih =>
    obtain ⟨h1, h2, h3⟩ := ih (by omega)
    unfold mst
    generalize mst e f n = s at *
    split
    · rename_i h
      unfold pickB at h
      rw [Bool.or_eq_true, Bool.and_eq_true] at h
      have : s.1 < e.length := by
        rcases h with h | h
        · have := of_decide_eq_true h; omega
        · exact of_decide_eq_true h.1
      exact ⟨by simp; omega, h2, by simp; omega⟩
    · rename_i h
      have h' : pickB e f s.1 s.2.1 = false := by simpa using h
      unfold pickB at h'
      rw [Bool.or_eq_false_iff] at h'
      have := of_decide_eq_false h'.1
      exact ⟨h1, by simp; omega, by simp; omega⟩

theorem pick_lt {e f : List Nat} {i k : Nat} (h : pickB e f i k = true) (hs : i + k < e.length + f.length) : i < e.length := by
  unfold pickB at h
  rw [Bool.or_eq_true, Bool.and_eq_true] at h
  rcases h with h | h
  · have := of_decide_eq_true h; omega
  · exact of_decide_eq_true h.1

theorem growW_len (b : Nat) (l : List Nat) : (growW b l).length ≤ l.length + 1 := by
  unfold growW
  rw [List.length_append]
  have := gout_len l b
  have : (keepF (gq b l)).length ≤ 1 := by unfold keepF; split <;> simp
  omega

/-- what holds of a grown expansion -/
structure GFacts (o : List Nat) (n : Nat) (S : Int) (A : Nat) : Prop where
  fins : ∀ x, x ∈ o → fin x
  novs : nov 0 (o.map fval)
  len : o.length ≤ n
  sum : isum (o.map fval) = S
  abs : 2 ^ 40 * absSum (o.map fval) ≤ (2 ^ 40 + 2 * n) * A

/-- the bound on all that is added, behind a name -/
def capE : Nat := unitE + 989
theorem capE_ok : capE + 11 ≤ unitE + 1000 := by decide
theorem capE_big : 2 ^ capE * 256 ≤ 2 ^ (unitE + 998) := by
  have e : (256 : Nat) = 2 ^ 8 := rfl
  rw [e, ← Nat.pow_add]; exact Nat.pow_le_pow_right (by decide) (by decide)

theorem fvals_rep (o : List Nat) : ∀ y, y ∈ o.map fval → rep y := fun y hy => by
  obtain ⟨x, _, rfl⟩ := List.mem_map.1 hy; exact rep_fval x

theorem grow_step {o : List Nat} {n : Nat} {S : Int} {A x : Nat} (h : GFacts o n S A) (hx : fin x) (hn : n ≤ 1000) (hA : A + (fval x).natAbs ≤ 2 ^ capE * 256) :
    runOK x o ∧ GFacts (growW x o) (n + 1) (S + fval x) (A + (fval x).natAbs) := by
  have hb : absSum (o.map fval) ≤ 2 * A := by
    have h1 := h.abs
    have h2 : (2 ^ 40 + 2 * n) * A ≤ 2 ^ 41 * A := Nat.mul_le_mul_right _ (by omega)
    omega
  have hr : runOK x o := by
    refine runOK_of capE capE_ok o x hx h.fins (by have := h.len; omega) ?_
    have hle : 2 ^ capE * 1024 ≤ 2 ^ capE * (2048 - o.length) := Nat.mul_le_mul_left _ (by have := h.len; omega)
    refine Nat.le_trans ?_ hle
    generalize 2 ^ capE = P at *
    generalize (fval x).natAbs = X at *
    omega
  refine ⟨hr, ?_⟩
  obtain ⟨v1, v2⟩ := growW_vals hr
  refine ⟨v2, ?_, ?_, ?_, ?_⟩
  · rw [v1]
    exact growGo_nov _ 0 0 _ (rep_fval x) ⟨0, by simp, by simp, fun y _ => by simp⟩ h.novs
  · have := growW_len x o; have := h.len; omega
  · rw [v1, growGo_sum, h.sum]; omega
  · rw [v1]
    have hg := growGo_abs (fval x) (o.map fval) (by rw [List.length_map]; have := h.len; omega)
    have ha := h.abs
    generalize absSum (growGo (fval x) (o.map fval)) = W at *
    generalize absSum (o.map fval) = B at *
    generalize (fval x).natAbs = X at *
    -- 2^80 W is at most (2^40 + 1) (2^40 + 2n) (A + X)
    have h1 : 2 ^ 40 * (X + B) ≤ (2 ^ 40 + 2 * n) * (A + X) := by
      rw [Nat.mul_add, Nat.mul_add]
      have : 2 ^ 40 * X ≤ (2 ^ 40 + 2 * n) * X := Nat.mul_le_mul_right _ (by omega)
      omega
    have h2 : (2 ^ 40 + 1) * (2 ^ 40 + 2 * n) ≤ 2 ^ 40 * (2 ^ 40 + 2 * (n + 1)) := by
      have : (2 ^ 40 + 1) * (2 ^ 40 + 2 * n) = 2 ^ 40 * 2 ^ 40 + 2 ^ 40 * (2 * n) + 2 ^ 40 + 2 * n := by
        rw [Nat.add_mul, Nat.mul_add]; omega
      omega
    have h3 : 2 ^ 40 * (2 ^ 40 * W) ≤ 2 ^ 40 * ((2 ^ 40 + 2 * (n + 1)) * (A + X)) := by
      have s1 : 2 ^ 40 * (2 ^ 40 * W) ≤ 2 ^ 40 * ((2 ^ 40 + 1) * (X + B)) := Nat.mul_le_mul_left _ hg
      have s2 : 2 ^ 40 * ((2 ^ 40 + 1) * (X + B)) = (2 ^ 40 + 1) * (2 ^ 40 * (X + B)) := Nat.mul_left_comm _ _ _
      have s3 : (2 ^ 40 + 1) * (2 ^ 40 * (X + B)) ≤ (2 ^ 40 + 1) * ((2 ^ 40 + 2 * n) * (A + X)) := Nat.mul_le_mul_left _ h1
      have s4 : (2 ^ 40 + 1) * ((2 ^ 40 + 2 * n) * (A + X)) ≤ 2 ^ 40 * (2 ^ 40 + 2 * (n + 1)) * (A + X) := by
        rw [← Nat.mul_assoc]; exact Nat.mul_le_mul_right _ h2
      rw [Nat.mul_assoc] at s4
      exact Nat.le_trans s1 (Nat.le_trans (Nat.le_of_eq s2) (Nat.le_trans s3 s4))
    exact Nat.le_of_mul_le_mul_left h3 (by omega)

/-- sums of what was taken -/
theorem take_sum (e : List Nat) (i : Nat) (h : i < e.length) : isum ((e.take (i + 1)).map fval) = isum ((e.take i).map fval) + fval (e.getD i 0) ∧ absSum ((e.take (i + 1)).map fval) = absSum ((e.take i).map fval) + (fval (e.getD i 0)).natAbs := by
  rw [take_snoc' e i h, List.map_append, isum_append, absSum_append]
  simp [isum, absSum]

theorem absSum_take (e : List Nat) (i : Nat) : absSum ((e.take i).map fval) ≤ absSum (e.map fval) := by
  have := List.take_append_drop i e
  conv => rhs; rw [← this]
  rw [List.map_append, absSum_append]; omega

theorem mst_facts {e f : List Nat} (he : ∀ x, x ∈ e → fin x) (hf : ∀ x, x ∈ f → fin x) (hlen : e.length + f.length ≤ 1000) (hA : absSum (e.map fval) + absSum (f.map fval) ≤ 2 ^ capE * 256) (n : Nat) (hn : n ≤ e.length + f.length) :
    GFacts (mst e f n).2.2 n (isum ((e.take (mst e f n).1).map fval) + isum ((f.take (mst e f n).2.1).map fval)) (absSum ((e.take (mst e f n).1).map fval) + absSum ((f.take (mst e f n).2.1).map fval)) ∧
    (n < e.length + f.length → (pickB e f (mst e f n).1 (mst e f n).2.1 = true → runOK (e.getD (mst e f n).1 0) (mst e f n).2.2) ∧ (pickB e f (mst e f n).1 (mst e f n).2.1 = false → runOK (f.getD (mst e f n).2.1 0) (mst e f n).2.2)) := by
  have step : ∀ n, n < e.length + f.length → GFacts (mst e f n).2.2 n (isum ((e.take (mst e f n).1).map fval) + isum ((f.take (mst e f n).2.1).map fval)) (absSum ((e.take (mst e f n).1).map fval) + absSum ((f.take (mst e f n).2.1).map fval)) →
      (pickB e f (mst e f n).1 (mst e f n).2.1 = true → (mst e f n).1 < e.length ∧ runOK (e.getD (mst e f n).1 0) (mst e f n).2.2 ∧ GFacts (growW (e.getD (mst e f n).1 0) (mst e f n).2.2) (n + 1) (isum ((e.take ((mst e f n).1 + 1)).map fval) + isum ((f.take (mst e f n).2.1).map fval)) (absSum ((e.take ((mst e f n).1 + 1)).map fval) + absSum ((f.take (mst e f n).2.1).map fval))) ∧
      (pickB e f (mst e f n).1 (mst e f n).2.1 = false → (mst e f n).2.1 < f.length ∧ runOK (f.getD (mst e f n).2.1 0) (mst e f n).2.2 ∧ GFacts (growW (f.getD (mst e f n).2.1 0) (mst e f n).2.2) (n + 1) (isum ((e.take (mst e f n).1).map fval) + isum ((f.take ((mst e f n).2.1 + 1)).map fval)) (absSum ((e.take (mst e f n).1).map fval) + absSum ((f.take ((mst e f n).2.1 + 1)).map fval))) := by
    intro n hn h
    obtain ⟨p1, p2, p3⟩ := mst_places e f n (by omega)
    generalize mst e f n = s at *
    refine ⟨fun hp => ?_, fun hp => ?_⟩
    · have hi := pick_lt hp (by omega)
      obtain ⟨t1, t2⟩ := take_sum e s.1 hi
      have a1 := absSum_take e (s.1 + 1)
      have a2 := absSum_take f s.2.1
      have g := grow_step h (he _ (getD_mem hi)) (by omega) (by rw [t2] at a1; omega)
      refine ⟨hi, g.1, ?_⟩
      have g2 := g.2
      rw [t1, t2]
      rw [show isum ((e.take s.1).map fval) + fval (e.getD s.1 0) + isum ((f.take s.2.1).map fval) = isum ((e.take s.1).map fval) + isum ((f.take s.2.1).map fval) + fval (e.getD s.1 0) by omega,
        show absSum ((e.take s.1).map fval) + (fval (e.getD s.1 0)).natAbs + absSum ((f.take s.2.1).map fval) = absSum ((e.take s.1).map fval) + absSum ((f.take s.2.1).map fval) + (fval (e.getD s.1 0)).natAbs by omega]
      exact g2
    · have hk : s.2.1 < f.length := by
        unfold pickB at hp
        rw [Bool.or_eq_false_iff] at hp
        have := of_decide_eq_false hp.1
        omega
      obtain ⟨t1, t2⟩ := take_sum f s.2.1 hk
      have a1 := absSum_take f (s.2.1 + 1)
      have a2 := absSum_take e s.1
      have g := grow_step h (hf _ (getD_mem hk)) (by omega) (by rw [t2] at a1; omega)
      refine ⟨hk, g.1, ?_⟩
      have g2 := g.2
      rw [t1, t2]
      rw [← Int.add_assoc, ← Nat.add_assoc]
      exact g2
  have all : ∀ n, n ≤ e.length + f.length → GFacts (mst e f n).2.2 n (isum ((e.take (mst e f n).1).map fval) + isum ((f.take (mst e f n).2.1).map fval)) (absSum ((e.take (mst e f n).1).map fval) + absSum ((f.take (mst e f n).2.1).map fval)) := by
    intro n
    induction n with
    | zero => intro _; exact ⟨fun x hx => by simp [mst] at hx, trivial, by simp [mst], by simp [mst, isum], by simp [mst, absSum]⟩
    | succ n ih =>
      intro hn
      have hs := step n (by omega) (ih (by omega))
      unfold mst
      cases hp : pickB e f (mst e f n).1 (mst e f n).2.1
      · exact (hs.2 hp).2.2
      · exact (hs.1 hp).2.2
  refine ⟨all n hn, fun h => ?_⟩
  have hs := step n h (all n hn)
  exact ⟨fun hp => (hs.1 hp).2.1, fun hp => (hs.2 hp).2.1⟩

theorem growW_dvd {o : List Nat} {x : Nat} (hr : runOK x o) (k : Nat) (hx : (2 : Int) ^ k ∣ fval x) (ho : ∀ y, y ∈ o → (2 : Int) ^ k ∣ fval y) : ∀ y, y ∈ growW x o → (2 : Int) ^ k ∣ fval y := by
  obtain ⟨v1, _⟩ := growW_vals hr
  intro y hy
  have : fval y ∈ growGo (fval x) (o.map fval) := by rw [← v1]; exact List.mem_map_of_mem hy
  refine growGo_dvd k _ _ hx ?_ _ this
  intro z hz
  obtain ⟨u, hu, rfl⟩ := List.mem_map.1 hz
  exact ho u hu

/-- the sum of two expansions -/
def plusW (e f : List Nat) : List Nat := neatW (mst e f (e.length + f.length)).2.2

/-- what holds of an expansion that was made neat -/
structure ExpFacts (l : List Nat) (S : Int) : Prop where
  fins : ∀ x, x ∈ l → fin x
  nz : ∀ x, x ∈ l → fval x ≠ 0
  novs : nov 0 (l.map fval)
  sum : isum (l.map fval) = S
  abs : absSum (l.map fval) ≤ 8 * S.natAbs
  all : allB l 1 INF = true

theorem plus_facts {e f : List Nat} (he : ∀ x, x ∈ e → fin x) (hf : ∀ x, x ∈ f → fin x) (hlen : e.length + f.length ≤ 1000) (hA : absSum (e.map fval) + absSum (f.map fval) ≤ 2 ^ capE * 128) :
    runN (mst e f (e.length + f.length)).2.2 ∧ ExpFacts (plusW e f) (isum (e.map fval) + isum (f.map fval)) ∧
    (∀ k : Nat, (∀ x, x ∈ e → (2 : Int) ^ k ∣ fval x) → (∀ x, x ∈ f → (2 : Int) ^ k ∣ fval x) → ∀ x, x ∈ plusW e f → (2 : Int) ^ k ∣ fval x) := by
  have hA' : absSum (e.map fval) + absSum (f.map fval) ≤ 2 ^ capE * 256 := Nat.le_trans hA (Nat.mul_le_mul_left _ (by decide))
  have hall := fun n hn => mst_facts he hf hlen hA' n hn
  obtain ⟨p1, p2, p3⟩ := mst_places e f (e.length + f.length) (Nat.le_refl _)
  have g := (hall _ (Nat.le_refl _)).1
  rw [show (mst e f (e.length + f.length)).1 = e.length by omega, show (mst e f (e.length + f.length)).2.1 = f.length by omega, List.take_of_length_le (Nat.le_refl _), List.take_of_length_le (Nat.le_refl _)] at g
  have hb : absSum ((mst e f (e.length + f.length)).2.2.map fval) ≤ 2 * (absSum (e.map fval) + absSum (f.map fval)) := by
    have h1 := g.abs
    have h2 : (2 ^ 40 + 2 * (e.length + f.length)) * (absSum (e.map fval) + absSum (f.map fval)) ≤ 2 ^ 41 * (absSum (e.map fval) + absSum (f.map fval)) := Nat.mul_le_mul_right _ (by omega)
    omega
  have hb2 : absSum ((mst e f (e.length + f.length)).2.2.map fval) ≤ 2 ^ capE * 256 := by
    generalize 2 ^ capE = P at *
    omega
  have hr : runN (mst e f (e.length + f.length)).2.2 := runN_of capE capE_ok _ g.fins g.novs (by have := g.len; omega) (Nat.le_trans hb2 (Nat.mul_le_mul_left _ (by decide)))
  have nf := neat_facts hr g.novs (by have := g.len; omega) (Nat.le_trans hb2 capE_big)
  refine ⟨hr, ⟨nf.fins, nf.nz, nf.novs, by unfold plusW; rw [nf.sum, g.sum], by have := nf.abs; rw [g.sum] at this; exact this, nf.all⟩, ?_⟩
  intro k hke hkf
  refine nf.dvd k ?_
  have gen : ∀ n, n ≤ e.length + f.length → ∀ x, x ∈ (mst e f n).2.2 → (2 : Int) ^ k ∣ fval x := by
    intro n
    induction n with
    | zero => intro _ x hx; simp [mst] at hx
    | succ n ih =>
      intro hn
      obtain ⟨q1, q2, q3⟩ := mst_places e f n (by omega)
      have hs := (hall n (by omega)).2 (by omega)
      have ih' := ih (by omega)
      unfold mst
      cases hp : pickB e f (mst e f n).1 (mst e f n).2.1
      · have hk : (mst e f n).2.1 < f.length := by
          have hp' := hp
          unfold pickB at hp'
          rw [Bool.or_eq_false_iff] at hp'
          have := of_decide_eq_false hp'.1
          omega
        exact growW_dvd (hs.2 hp) k (hkf _ (getD_mem hk)) ih'
      · exact growW_dvd (hs.1 hp) k (hke _ (getD_mem (pick_lt hp (by omega)))) ih'
  exact gen _ (Nat.le_refl _)


theorem boxes_I {w : World} {b : Nat} {ve vf : Value} {i k : Nat} (h : Boxes w b ve vf i k) (n : Nat) : Boxes ((w.drewN n).setCell ⟨b + 1 + 1, 0, none⟩ (.int .i64 (i + 1))) b ve vf (i + 1) k := by
  obtain ⟨h1, h2, h3, h4, h5, h6⟩ := h
  refine ⟨?_, ?_, ?_, ?_, ?_, ?_⟩
  · rw [World.cell?_setCell_far _ _ _ _ (by dsimp only; omega)]; exact h1
  · rw [World.cell?_setCell_far _ _ _ _ (by dsimp only; omega)]; exact h2
  · exact World.cell?_setCell_same (w.drewN n) _ _ h3
  · rw [World.cell?_setCell_far _ _ _ _ (by dsimp only; omega)]; exact h4
  · rw [World.frozen?_setCell]; exact h5
  · rw [World.frozen?_setCell]; exact h6

theorem boxes_K {w : World} {b : Nat} {ve vf : Value} {i k : Nat} (h : Boxes w b ve vf i k) (n : Nat) : Boxes ((w.drewN n).setCell ⟨b + 1 + 1 + 1, 0, none⟩ (.int .i64 (k + 1))) b ve vf i (k + 1) := by
  obtain ⟨h1, h2, h3, h4, h5, h6⟩ := h
  refine ⟨?_, ?_, ?_, ?_, ?_, ?_⟩
  · rw [World.cell?_setCell_far _ _ _ _ (by dsimp only; omega)]; exact h1
  · rw [World.cell?_setCell_far _ _ _ _ (by dsimp only; omega)]; exact h2
  · rw [World.cell?_setCell_far _ _ _ _ (by dsimp only; omega)]; exact h3
  · exact World.cell?_setCell_same (w.drewN n) _ _ h4
  · rw [World.frozen?_setCell]; exact h5
  · rw [World.frozen?_setCell]; exact h6

theorem boxes_below {w w' : World} {b : Nat} {ve vf : Value} {i k : Nat} (h : Boxes w b ve vf i k) (hb : Below w.heap.size w w') (hs : b + 4 ≤ w.heap.size) : Boxes w' b ve vf i k := by
  obtain ⟨h1, h2, h3, h4, h5, h6⟩ := h
  refine ⟨?_, ?_, ?_, ?_, ?_, ?_⟩
  · rw [hb.cell (p := ⟨b, 0, none⟩) (by simp; omega)]; exact h1
  · rw [hb.cell (p := ⟨b + 1, 0, none⟩) (by simp; omega)]; exact h2
  · rw [hb.cell (p := ⟨b + 1 + 1, 0, none⟩) (by simp; omega)]; exact h3
  · rw [hb.cell (p := ⟨b + 1 + 1 + 1, 0, none⟩) (by simp; omega)]; exact h4
  · rw [hb.frozen (p := ⟨b + 1 + 1, 0, none⟩) (by simp; omega)]; exact h5
  · rw [hb.frozen (p := ⟨b + 1 + 1 + 1, 0, none⟩) (by simp; omega)]; exact h6

theorem boxes_start (w : World) (ve vf : Value) (T : TypeId) : Boxes ((((w.alloc (Obj.cells #[ve] T)).alloc (Obj.cells #[vf] T)).alloc (Obj.cells #[Value.int .i64 0] 3)).alloc (Obj.cells #[Value.int .i64 0] 3)) w.heap.size ve vf 0 0 := by
  refine ⟨?_, ?_, ?_, ?_, ?_, ?_⟩
  · rw [World.cell?_alloc_past _ _ _ (by simp <;> omega), World.cell?_alloc_past _ _ _ (by simp <;> omega), World.cell?_alloc_past _ _ _ (by simp), World.cell?_alloc_at _ _ _ _ rfl]; rfl
  · rw [World.cell?_alloc_past _ _ _ (by simp <;> omega), World.cell?_alloc_past _ _ _ (by simp), World.cell?_alloc_at _ _ _ _ (by simp)]; rfl
  · rw [World.cell?_alloc_past _ _ _ (by simp), World.cell?_alloc_at _ _ _ _ (by simp)]; rfl
  · rw [World.cell?_alloc_at _ _ _ _ (by simp)]; rfl
  · rw [World.frozen?_alloc_past _ _ _ (by simp)]; exact World.frozen?_alloc_at _ _ _ _ (by simp)
  · exact World.frozen?_alloc_at _ _ _ _ (by simp)

/-- a row of the call's own stands where a box below it is written -/
theorem own_setCell {w : World} {base : Nat} {e : TypeId} {size : Nat} {v : Value} {n : Nat} {xs : List Value} (h : w.ownsRow base e size v n xs) (m : Nat) (p : Addr) (u : Value) (hp : p.block < base) : ((w.drewN m).setCell p u).ownsRow base e size v n xs := by
  obtain ⟨h1, h2 | ⟨g, cap, cur, e1, e2, e3, e4⟩⟩ := h
  · exact ⟨h1, Or.inl h2⟩
  · refine ⟨h1, Or.inr ⟨g, cap, cur, e1, e2, ?_, e4⟩⟩
    rw [Below.heap_setCell _ _ _ _ (by omega)]; exact e3

theorem cellsF_below {w w' : World} {ad : Option Addr} {l : List Nat} {b : Nat} (h : CellsF w ad l b) (hb : Below b w w') : CellsF w' ad l b := by
  intro h0
  obtain ⟨bb, off, e, hlt, hc⟩ := h h0
  exact ⟨bb, off, e, hlt, fun i hi => by rw [hb.cell (p := ⟨bb, off + i, none⟩) hlt]; exact hc i hi⟩

/-- a round's first half: a float is taken -/
def nextX (e f : List Nat) (s : Nat × Nat × List Nat) : Nat := if pickB e f s.1 s.2.1 then e.getD s.1 0 else f.getD s.2.1 0
def nextI (e f : List Nat) (s : Nat × Nat × List Nat) : Nat := if pickB e f s.1 s.2.1 then s.1 + 1 else s.1
def nextK (e f : List Nat) (s : Nat × Nat × List Nat) : Nat := if pickB e f s.1 s.2.1 then s.2.1 else s.2.1 + 1

theorem mst_succ (e f : List Nat) (n : Nat) : mst e f (n + 1) = (nextI e f (mst e f n), nextK e f (mst e f n), growW (nextX e f (mst e f n)) (mst e f n).2.2) := by
  show (if pickB e f (mst e f n).1 (mst e f n).2.1 then _ else _) = _
  unfold nextI nextK nextX
  split <;> rfl

theorem next_any (e f : List Nat) (b : Nat) (ead fad : Option Addr) (ec fc : Nat) (s : Nat × Nat × List Nat) (hle : e.length ≤ 4294967296) (hlf : f.length ≤ 4294967296) (h64e : ∀ x, x ∈ e → x < 2 ^ 64) (h64f : ∀ x, x ∈ f → x < 2 ^ 64) (hk : s.2.1 ≤ f.length) (hi : s.1 ≤ e.length) (hs : s.1 + s.2.1 < e.length + f.length) (w : World)
    (hB : Boxes w b (.slice ead e.length ec) (.slice fad f.length fc) s.1 s.2.1) (hce : CellsF w ead e b) (hcf : CellsF w fad f b) :
    Calls Tryz.prog 304 #[.pointer (some ⟨b + 1 + 1 + 1, 0, none⟩), .pointer (some ⟨b + 1, 0, none⟩), .pointer (some ⟨b + 1 + 1, 0, none⟩), .pointer (some ⟨b, 0, none⟩)] w fun r w' =>
      r = .returned (.float .f64 (nextX e f s)) ∧ Boxes w' b (.slice ead e.length ec) (.slice fad f.length fc) (nextI e f s) (nextK e f s) ∧ Below b w w' ∧ w'.heap.size = w.heap.size ∧ ∀ v xs, OwnF w (b + 4) v xs → OwnF w' (b + 4) v xs := by
  have hsz : ∀ (m : Nat) (p : Addr) (u : Value), ((w.drewN m).setCell p u).heap.size = w.heap.size := fun m p u => by simp [World.setCell]
  have hdb : ∀ m, Below b w (w.drewN m) := fun m => ⟨rfl, rfl, rfl, Nat.le_refl _, fun _ _ => rfl⟩
  unfold nextX nextI nextK
  cases hp : pickB e f s.1 s.2.1
  · exact (next_f e f b ead fad ec fc s.1 s.2.1 hle hlf h64e h64f hk hi hp w hB hce hcf).mono fun r w' ⟨n, h1, h2⟩ =>
      ⟨h1, by rw [h2]; exact boxes_K hB n, by rw [h2]; exact (hdb n).setCell (by dsimp only; omega) _, by rw [h2, hsz], fun v xs h => by rw [h2]; exact own_setCell h n _ _ (by dsimp only; omega)⟩
  · exact (next_e e f b ead fad ec fc s.1 s.2.1 hle hlf h64e h64f hk (pick_lt hp hs) hp w hB hce hcf).mono fun r w' ⟨n, h1, h2⟩ =>
      ⟨h1, by rw [h2]; exact boxes_I hB n, by rw [h2]; exact (hdb n).setCell (by dsimp only; omega) _, by rw [h2, hsz], fun v xs h => by rw [h2]; exact own_setCell h n _ _ (by dsimp only; omega)⟩

set_option maxRecDepth 100000 in
set_option maxHeartbeats 2000000 in
theorem plus_walk (e f : List Nat) (ve vf : Value) (he : ∀ x, x ∈ e → fin x) (hf : ∀ x, x ∈ f → fin x) (hlen : e.length + f.length ≤ 1000) (hA : absSum (e.map fval) + absSum (f.map fval) ≤ 2 ^ capE * 128) (w : World) (hve : FSl w ve e) (hvf : FSl w vf f) :
    Calls Tryz.prog 256 #[ve, vf] w fun r w' => ∃ v', r = .returned v' ∧ FSl w' v' (plusW e f) ∧ Below w.heap.size w w' := by
  have h64e := hve.2.1
  have h64f := hvf.2.1
  obtain ⟨ead, ec, rfl, hce⟩ := hve.form
  obtain ⟨fad, fc, rfl, hcf⟩ := hvf.form
  have hce : CellsF w ead e w.heap.size := fun h => by obtain ⟨b, off, h1, h2, h3⟩ := hce h; exact ⟨b, off, h1, h2, h3⟩
  have hcf : CellsF w fad f w.heap.size := fun h => by obtain ⟨b, off, h1, h2, h3⟩ := hcf h; exact ⟨b, off, h1, h2, h3⟩
  have HP := Lib.hid (plus_facts he hf hlen hA)
  have HM := Lib.hid (fun n hn => mst_facts he hf hlen (Nat.le_trans hA (Nat.mul_le_mul_left _ (by decide))) n hn)
  have H64e := Lib.hid h64e
  have H64f := Lib.hid h64f
  have HCE := Lib.hid hce
  have HCF := Lib.hid hcf
  have hmf : ∀ (fn : Fn) (first cap : Array Value) (w : World), (Instr.makeFunc fn first cap).run Tryz.prog w = .ok (.func fn first cap) w := fun _ _ _ _ => rfl
  clear hve hvf he hf hA h64e h64f hce hcf
  go_enter Tryz.func256, Tryz.ntmps256
  go_wp2
  go_loopw [8, 15] (fun out c wr => ∃ n : Nat, n ≤ e.length + f.length ∧ c = .int .i64 n ∧ Boxes wr w.heap.size (.slice ead e.length ec) (.slice fad f.length fc) (mst e f n).1 (mst e f n).2.1 ∧ OwnF wr (w.heap.size + 4) out (mst e f n).2.2 ∧ Below w.heap.size w wr ∧ w.heap.size + 4 ≤ wr.heap.size) (fun _ c _ => e.length + f.length - (intOf c).toNat)
  case atStart => exact ⟨0, Nat.zero_le _, rfl, boxes_start w _ _ _, World.ownsRow_nil _ _ _ _, ((((Below.refl _ _).alloc (Nat.le_refl _) _).alloc (by simp) _).alloc (by simp; omega) _).alloc (by simp; omega) _, by simp⟩
  case round =>
    obtain ⟨n, hn, rfl, hB, hown, hbw, hsz⟩ := hrel
    by_cases hlt : n < e.length + f.length
    · obtain ⟨p1, p2, p3⟩ := mst_places e f n hn
      have hrun := (HM.out n hn).2 hlt
      have hg := (HM.out n hn).1
      have HN := Lib.hid (next_any e f w.heap.size ead fad ec fc (mst e f n) (by omega) (by omega) H64e.out H64f.out p2 p1 (by omega) wr hB (cellsF_below HCE.out hbw) (cellsF_below HCF.out hbw))
      have HST := Lib.hid (mst_succ e f n)
      have hrx : runOK (nextX e f (mst e f n)) (mst e f n).2.2 := by
        unfold nextX
        cases hp : pickB e f (mst e f n).1 (mst e f n).2.1
        · exact hrun.2 hp
        · exact hrun.1 hp
      have HG := Lib.hid (grow_walk (mst e f n).2.2)
      have HRX := Lib.hid hrx
      have HGF : Hid ((mst e f n).2.2.length ≤ 1000 ∧ ∀ x, x ∈ (mst e f n).2.2 → x < 2 ^ 64) := ⟨by have := hg.len; omega, fun x hx => (hg.fins x hx).1⟩
      have hltI : (n : Int) < (e.length : Int) + (f.length : Int) := by omega
      clear hrun hg hB p1 p2 p3 hrx
      generalize nextX e f (mst e f n) = X at *
      generalize nextI e f (mst e f n) = I' at *
      generalize nextK e f (mst e f n) = K' at *
      generalize (mst e f n).2.2 = o at *
      go_wp2_with (first
        | (go_at_call 304; refine HN.out.mono ?_; rintro r w1 ⟨rfl, hB1, hb1, hs1, ho1⟩; have hown1 := ho1 _ _ hown; have hB2 := Lib.hid hB1; clear hB1 ho1 hown)
        | (go_at_call 301; refine (HG.out _ X HRX.out (by have := HGF.out.1; omega) _ (FSl_of_own hown1 (by have := HGF.out.1; omega) HGF.out.2)).mono ?_; rintro r w2 ⟨v2, rfl, hown2, hb2⟩))
      go_roundw
      case rel =>
        have hsz2 := hb2.size
        refine ⟨n + 1, by omega, by go_num, ?_, ?_, ?_, ?_⟩
        · rw [HST.out]; exact boxes_below hB2.out hb2 (by omega)
        · rw [HST.out]; exact ownsRow_base hown2 (by omega)
        · exact (hbw.trans hb1).trans (hb2.mono (by omega))
        · omega
      case measure => simp [intOf]; omega
    · have hnl : n = e.length + f.length := by omega
      subst hnl
      have hg := (HM.out _ (Nat.le_refl _)).1
      obtain ⟨hrN, hF, _⟩ := HP.out
      have hl64 : (plusW e f).length ≤ 64 := by
        have := hF.all
        unfold allB at this
        rw [Bool.and_eq_true] at this
        exact of_decide_eq_true this.1
      have HF := Lib.hid hF
      have HN : Hid (∀ w v, FSl w v (mst e f (e.length + f.length)).2.2 → Calls Tryz.prog 303 #[v] w fun r w' => ∃ v', r = .returned v' ∧ OwnF w' w.heap.size v' (plusW e f) ∧ Below w.heap.size w w') :=
        fun w v hv => neat_walk (mst e f (e.length + f.length)).2.2 v hrN (by have := hg.len; omega) w hv
      have HO : Hid (FSl wr u8 (mst e f (e.length + f.length)).2.2) := FSl_of_own hown (by have := hg.len; omega) (fun x hx => (hg.fins x hx).1)
      have HPL := Lib.hid hl64
      clear hg hrN hF hB hl64 HM hown
      go_wp2_with (first
        | (go_at_call 303; refine (HN.out _ _ HO.out).mono ?_; rintro r w1 ⟨v1, rfl, hown1, hb1⟩; have hfs := FSl_of_own hown1 (by have := HPL.out; omega) (fun x hx => (HF.out.fins x hx).1))
        | (go_at_call 302; refine (apart_walk (plusW e f) _ HF.out.fins HF.out.all _ hfs).mono ?_; rintro r w2 ⟨rfl, rfl⟩))
      go_ret
      exact ⟨_, rfl, hfs, hbw.trans (hb1.mono (by omega))⟩

end Go.Proofs.YtdoaniccefdkaaaGreatDoor

/- expand.Neg, Check, Safe, Sign. -/
namespace Go.Proofs.YtdoaniccefdkaaaGreatDoor
open Go.RowKit Tvf

set_option maxRecDepth 100000 in
set_option maxHeartbeats 400000 in
theorem check_walk (l : List Nat) (v : Value) (hl : ∀ x, x ∈ l → fin x) (w : World) (hv : FSl w v l) :
    Calls Tryz.prog 257 #[v] w fun e w' => e = .returned (.bool (allB l 1 9065746049896808448)) ∧ w = w' := by
  have HA := Lib.hid (all_walk l v 1 9065746049896808448 fin_tiny (by rw [fval_tiny]; decide) hl w hv)
  clear hl
  go_enter Tryz.func257, Tryz.ntmps257
  go_wp2_with (go_at_call 282; refine (HA.out).mono ?_; rintro e w' ⟨rfl, rfl⟩)
  go_ret
  exact ⟨rfl, rfl⟩

set_option maxRecDepth 100000 in
set_option maxHeartbeats 400000 in
theorem safe_all_walk (l : List Nat) (v : Value) (hl : ∀ x, x ∈ l → fin x) (w : World) (hv : FSl w v l) :
    Calls Tryz.prog 254 #[v] w fun e w' => e = .returned (.bool (allB l 2580562586483294208 6633802251116740608)) ∧ w = w' := by
  have HA := Lib.hid (all_walk l v 2580562586483294208 6633802251116740608 (by unfold fin; omega) (by rw [fval_m450]; exact Int.pow_pos (by omega)) hl w hv)
  clear hl
  go_enter Tryz.func254, Tryz.ntmps254
  go_wp2_with (go_at_call 282; refine (HA.out).mono ?_; rintro e w' ⟨rfl, rfl⟩)
  go_ret
  exact ⟨rfl, rfl⟩

/-- the sign of a sum whose parts lie one upon the other: its last's -/
theorem sign_last (l : List Int) (z : Int) (p : Nat) (h : nov p (l ++ [z])) : (0 < isum (l ++ [z]) ↔ 0 < z) ∧ (isum (l ++ [z]) < 0 ↔ z < 0) ∧ z ≠ 0 := by
  have gen : ∀ (l : List Int) (p : Nat), nov p (l ++ [z]) → absSum l < z.natAbs ∧ z ≠ 0 := by
    intro l p h
    have hd := dn_of_nov h
    rw [List.reverse_append] at hd
    obtain ⟨h0, ⟨k, h1, h2⟩, _⟩ : dn (z :: l.reverse) := hd
    have hab : absSum l.reverse = absSum l := by
      have gen : ∀ a : List Int, absSum a.reverse = absSum a := by
        intro a
        induction a with
        | nil => rfl
        | cons x r ih => rw [List.reverse_cons, absSum_append, ih]; simp only [absSum]; omega
      exact gen l
    rw [hab] at h2
    exact ⟨Nat.lt_of_lt_of_le h2 (natAbs_ge_of_dvd h1 h0), h0⟩
  obtain ⟨h1, h2⟩ := gen l p h
  have h3 := isum_le l
  rw [isum_append]
  simp only [isum]
  omega

def sgnI (z : Int) : Int := if z < 0 then -1 else if 0 < z then 1 else 0

set_option maxRecDepth 100000 in
set_option maxHeartbeats 800000 in
theorem sign_walk (l : List Nat) (v : Value) (hl : ∀ x, x ∈ l → fin x) (hn : nov 0 (l.map fval)) (hc : allB l 1 9065746049896808448 = true) (w : World) (hv : FSl w v l) :
    Calls Tryz.prog 238 #[v] w fun e w' => e = .returned (.int .i64 (sgnI (isum (l.map fval)))) ∧ w = w' := by
  have HA := Lib.hid (check_walk l v hl w hv)
  rw [hc] at HA
  obtain ⟨ad, cap, rfl, hcell⟩ := hv.form
  have h32 := hv.1
  by_cases h0 : 0 < l.length
  · obtain ⟨b, off, rfl, _, hcl⟩ := hcell h0
    have hx := hcl (l.length - 1) (by omega)
    have hl1 : ((l.length : Int) == 0) = false := by rw [beq_eq_false_iff_ne]; omega
    have hi1 : ((l.length : Int) - 1).toNat = l.length - 1 := by omega
    have hfx := hl _ (getD_mem (l := l) (k := l.length - 1) (by omega))
    have hlast : l = l.take (l.length - 1) ++ [l.getD (l.length - 1) 0] := by
      have := take_snoc' l (l.length - 1) (by omega)
      rw [show l.length - 1 + 1 = l.length by omega, List.take_of_length_le (Nat.le_refl _)] at this
      exact this
    have hsg := sign_last ((l.take (l.length - 1)).map fval) (fval (l.getD (l.length - 1) 0)) 0 (by
      rw [hlast, List.map_append] at hn; exact hn)
    have hmap : l.map fval = (l.take (l.length - 1)).map fval ++ [fval (l.getD (l.length - 1) 0)] := by
      conv => lhs; rw [hlast]
      rw [List.map_append]; rfl
    rw [← hmap] at hsg
    have hlt : flt (l.getD (l.length - 1) 0) 0 = decide (fval (l.getD (l.length - 1) 0) < 0) := by
      rw [flt_val hfx (by unfold fin; omega)]; rfl
    have HS : Hid (sgnI (isum (l.map fval)) = if flt (l.getD (l.length - 1) 0) 0 then -1 else 1) := by
      unfold Hid sgnI
      rw [hlt]
      by_cases h : fval (l.getD (l.length - 1) 0) < 0
      · rw [if_pos (by omega), if_pos (by simpa using h)]
      · rw [if_neg (by omega), if_pos (by omega), if_neg (by simpa using h)]
    clear hl hn hc hcell hcl hfx hlast hsg hmap hlt hv
    generalize l.getD (l.length - 1) 0 = x at *
    cases h : flt x 0
    all_goals
      rw [h] at HS
      go_enter Tryz.func238, Tryz.ntmps238
      go_wp2_with (go_at_call 257; refine (HA.out).mono ?_; rintro e w' ⟨rfl, rfl⟩)
      go_ret
      exact ⟨by rw [HS.out]; rfl, rfl⟩
  · have hnil : l = [] := List.length_eq_zero_iff.1 (by omega)
    subst hnil
    clear hl hn hc hcell h32 h0 hv
    go_enter Tryz.func238, Tryz.ntmps238
    go_wp2_with (go_at_call 257; refine (HA.out).mono ?_; rintro e w' ⟨rfl, rfl⟩)
    go_ret
    exact ⟨rfl, rfl⟩

set_option maxRecDepth 100000 in
set_option maxHeartbeats 1600000 in
theorem neg_walk (l : List Nat) (v : Value) (w : World) (hlen : l.length ≤ 4000) (hv : FSl w v l) :
    Calls Tryz.prog 236 #[v] w fun e w' => ∃ v', e = .returned v' ∧ FSl w' v' (l.map fopp) ∧ Below w.heap.size w w' := by
  obtain ⟨ad, cap, rfl, hcell⟩ := hv.form
  obtain ⟨i0, hi, hz0, hz1, hz2⟩ := info_parts infoF
  have H64 := Lib.hid hv.2.1
  clear hv
  have HC := Lib.hid hcell
  clear hcell
  go_enter Tryz.func236, Tryz.ntmps236
  go_wp2_with (at_make; refine wpList_make_full _ rfl _ _ 227 rfl w.heap.size 50 i0 (.float .f64 0) 1 Tryz.underlying227 hi hz0 hz1 .i64 .i64 _ _ l.length rfl rfl rfl rfl ?c2 ?c3 (Nat.le_refl _) ?_)
  case c2 => rw [hz2]; omega
  case c3 => unfold maxLen; omega
  intro w0 hown0 hgrow0
  have hb0 : Below w.heap.size w w0 := (Below.refl _ _).grown hgrow0 (Nat.le_refl _) (fun k hk => by cases hk)
  have hsz0 : w.heap.size < w0.heap.size := (World.ownsRow.lt hown0 _ rfl).2
  have hfz0 := fun j => World.ownsRow.frozenAt hown0 j
  have hcl0 : ∀ j, j < l.length → w0.cell? ⟨w.heap.size, j, none⟩ = some (.float .f64 0) := by
    intro j hj
    have := World.ownsRow.cells hown0 (g := w.heap.size) rfl j (.float .f64 0) (by
      show (madeCells #[Value.float .f64 0] l.length).toList[j]? = _
      rw [toList_madeCells_one]; simp [hj])
    by_cases h0 : j = 0
    · subst h0; simpa [Addr.add] using this
    · simpa [Addr.add, h0] using this
  clear hgrow0 hown0
  have HF0 := Lib.hid hfz0
  have HC0 := Lib.hid hcl0
  clear hfz0 hcl0
  go_wp2
  go_loopw [11] (fun i wr => ∃ k : Nat, k ≤ l.length ∧ i = .int .i64 k ∧ Hid (∀ j, wr.frozen? ⟨w.heap.size, j, none⟩ = false) ∧ Hid (∀ j, j < l.length → wr.cell? ⟨w.heap.size, j, none⟩ = some (.float .f64 (if j < k then fopp (l.getD j 0) else 0))) ∧ Below w.heap.size w wr ∧ w.heap.size < wr.heap.size) (fun i _ => l.length - (intOf i).toNat)
  case atStart => exact ⟨0, Nat.zero_le _, rfl, HF0, fun j hj => by rw [HC0.out j hj, if_neg (by omega)], hb0, hsz0⟩
  case round =>
    clear hb0 hsz0 HF0 HC0
    obtain ⟨k, hk, rfl, HF, HCL, hbw, hsz⟩ := hrel
    by_cases hlt : k < l.length
    · obtain ⟨bb, off, rfl, hbb, hc⟩ := HC.out (by omega)
      have hck : wr.cell? ⟨bb, off + k, none⟩ = some (.float .f64 (l.getD k 0)) := (hbw.cell (p := ⟨bb, off + k, none⟩) hbb).trans (hc k hlt)
      have hfk := HF.out k
      obtain ⟨old, hold⟩ : ∃ old, wr.cell? ⟨w.heap.size, k, none⟩ = some old := ⟨_, HCL.out k hlt⟩
      clear hc
      have HX : Hid (∃ x, x = l.getD k 0) := ⟨_, rfl⟩
      generalize hgx : l.getD k 0 = x at *
      have HGX := Lib.hid hgx
      clear hgx
      by_cases hk0 : k = 0
      · subst hk0
        rw [Nat.add_zero] at hck
        go_wp2
        go_roundw
        case rel =>
          refine ⟨0 + 1, by omega, by go_num, fun j => by rw [World.frozen?_setCell]; exact HF.out j, ?_, hbw.setCell (Nat.le_refl _) _, by simp [World.setCell]; exact hsz⟩
          intro j hj
          by_cases hjk : j = 0
          · subst hjk
            rw [World.cell?_setCell_same _ _ _ hold, if_pos (by omega), HGX.out]
          · rw [World.cell?_setCell_other _ _ _ _ (by intro e; injection e; omega), HCL.out j hj, if_neg (by omega), if_neg (by omega)]
        case measure => simp [intOf]; omega
      · go_wp2
        go_roundw
        case rel =>
          refine ⟨k + 1, by omega, by go_num, fun j => by rw [World.frozen?_setCell]; exact HF.out j, ?_, hbw.setCell (Nat.le_refl _) _, by simp [World.setCell]; exact hsz⟩
          intro j hj
          by_cases hjk : j = k
          · subst hjk
            rw [World.cell?_setCell_same _ _ _ hold, if_pos (by omega), HGX.out]
          · rw [World.cell?_setCell_other _ _ _ _ (by intro e; injection e; omega), HCL.out j hj]
            by_cases hjk2 : j < k
            · rw [if_pos hjk2, if_pos (by omega)]
            · rw [if_neg hjk2, if_neg (by omega)]
        case measure => simp [intOf]; omega
    · have hkl : k = l.length := by omega
      subst hkl
      go_wp2
      go_ret
      refine ⟨_, rfl, ⟨by rw [List.length_map]; omega, ?_, Or.inr ⟨w.heap.size, 0, l.length, by rw [List.length_map]; rfl, hsz, ?_⟩⟩, hbw⟩
      · intro x hx
        obtain ⟨y, hy, rfl⟩ := List.mem_map.1 hx
        have := H64.out y hy
        rw [fopp_eq this]; split <;> omega
      · intro i hi
        rw [List.length_map] at hi
        rw [Nat.zero_add, HCL.out i hi, if_pos hi]
        congr 2
        rw [List.getD_eq_getElem?_getD, List.getD_eq_getElem?_getD, List.getElem?_map, List.getElem?_eq_getElem hi]; rfl

end Go.Proofs.YtdoaniccefdkaaaGreatDoor

/- expand.Scale: what it comes to, and its walk. -/
namespace Go.Proofs.YtdoaniccefdkaaaGreatDoor
open Go.RowKit Tvf

/-- an expansion that may be multiplied -/
structure SafeL (e : List Nat) : Prop where
  fins : ∀ x, x ∈ e → fin x
  all : allB e 2580562586483294208 6633802251116740608 = true

theorem fin_m450 : fin 2580562586483294208 := by unfold fin; omega
theorem fin_p450 : fin 6633802251116740608 := by unfold fin; omega

theorem safe_of_within {x : Nat} (hx : fin x) (h : withinB x 2580562586483294208 6633802251116740608 = true) : safe x := by
  unfold withinB at h
  rw [Bool.and_eq_true, fge_val (fin_abs hx) fin_m450, fle_val (fin_abs hx) fin_p450, fval_abs, fval_m450, fval_p450] at h
  have h1 := of_decide_eq_true h.1
  have h2 := of_decide_eq_true h.2
  obtain ⟨p, hp⟩ : ∃ p : Nat, p = 2 ^ (unitE - 450) := ⟨_, rfl⟩
  obtain ⟨q, hq⟩ : ∃ q : Nat, q = 2 ^ (unitE + 450) := ⟨_, rfl⟩
  have c1 : (p : Int) = (2 : Int) ^ (unitE - 450) := by rw [hp]; simp
  have c2 : (q : Int) = (2 : Int) ^ (unitE + 450) := by rw [hq]; simp
  rw [← c1] at h1
  rw [← c2] at h2
  refine ⟨hx, ?_, ?_⟩
  · rw [← hp]; omega
  · rw [← hq]; omega

theorem within_of_safe {x : Nat} (h : safe x) : withinB x 2580562586483294208 6633802251116740608 = true := by
  obtain ⟨hx, h1, h2⟩ := h
  unfold withinB
  rw [fge_val (fin_abs hx) fin_m450, fle_val (fin_abs hx) fin_p450, fval_abs, fval_m450, fval_p450]
  obtain ⟨p, hp⟩ : ∃ p : Nat, p = 2 ^ (unitE - 450) := ⟨_, rfl⟩
  obtain ⟨q, hq⟩ : ∃ q : Nat, q = 2 ^ (unitE + 450) := ⟨_, rfl⟩
  have c1 : (p : Int) = (2 : Int) ^ (unitE - 450) := by rw [hp]; simp
  have c2 : (q : Int) = (2 : Int) ^ (unitE + 450) := by rw [hq]; simp
  rw [← c1, ← c2]
  rw [← hp] at h1
  rw [← hq] at h2
  have d1 : decide ((p : Int) ≤ ((fval x).natAbs : Int)) = true := by simp; omega
  have d2 : decide (((fval x).natAbs : Int) ≤ (q : Int)) = true := by simp; omega
  rw [d1, d2]; rfl

theorem SafeL.safe {e : List Nat} (h : SafeL e) : ∀ x, x ∈ e → safe x := by
  intro x hx
  have ha := h.all
  unfold allB at ha
  rw [Bool.and_eq_true, List.all_eq_true] at ha
  obtain ⟨j, hj, rfl⟩ := List.mem_iff_getElem.1 hx
  have := ha.2 j (by simpa using hj)
  unfold goodAt at this
  rw [Bool.and_eq_true] at this
  have h2 := this.1
  rw [List.getD_eq_getElem?_getD, List.getElem?_eq_getElem hj] at h2
  exact safe_of_within (h.fins _ hx) h2

theorem SafeL.len {e : List Nat} (h : SafeL e) : e.length ≤ 64 := by
  have ha := h.all
  unfold allB at ha
  rw [Bool.and_eq_true] at ha
  exact of_decide_eq_true ha.1

/-- the steps of a product with a float -/
def sclSt (b : Nat) : List Nat → List Nat → List Nat
  | o, [] => o
  | o, x :: r => sclSt b (growW (prodHi x b) (growW (prodLo x b) o)) r
def scaleW (e : List Nat) (b : Nat) : List Nat := neatW (sclSt b [] e)

theorem sclSt_snoc (b : Nat) (l : List Nat) (x : Nat) : ∀ o, sclSt b o (l ++ [x]) = growW (prodHi x b) (growW (prodLo x b) (sclSt b o l)) := by
  induction l with
  | nil => intro o; rfl
  | cons y r ih => intro o; exact ih _

def capS : Nat := unitE + 940
theorem capS_le : 2 ^ capS * 2 ^ 40 ≤ 2 ^ capE := by
  rw [← Nat.pow_add]; exact Nat.pow_le_pow_right (by decide) (by decide)

/-- how great the parts of a product are -/
theorem prod_abs {a b : Nat} (ha : safe a) (hb : safe b) : (fval (prodHi a b)).natAbs + (fval (prodLo a b)).natAbs ≤ 2 ^ capS := by
  have hf := prod_facts ha hb
  have v1 := hf.v1
  have v2 := hf.v2
  have hab : (fval a * fval b).natAbs ≤ 2 ^ (unitE + 450) * 2 ^ (unitE + 450) := mul_natAbs_le ha.2.2 hb.2.2
  have hr := rest_small (fval a * fval b)
  have a1 := congrArg Int.natAbs v1
  have a2 := congrArg Int.natAbs v2
  rw [Int.natAbs_mul, natAbs_two_pow] at a1 a2
  have h3 : ((fval (prodHi a b)).natAbs + (fval (prodLo a b)).natAbs) * 2 ^ unitE ≤ 3 * (2 ^ (unitE + 450) * 2 ^ (unitE + 450)) := by
    rw [Nat.add_mul, a1, a2]
    obtain ⟨T, hT⟩ : ∃ T : Nat, T = 2 ^ (unitE + 450) * 2 ^ (unitE + 450) := ⟨_, rfl⟩
    rw [← hT] at hab ⊢
    clear a1 a2 v1 v2 hT
    generalize fval a * fval b = P at *
    omega
  have h4 : 3 * (2 ^ (unitE + 450) * 2 ^ (unitE + 450)) ≤ 2 ^ capS * 2 ^ unitE := by
    have e1 : 3 * (2 ^ (unitE + 450) * 2 ^ (unitE + 450)) ≤ 2 ^ 2 * (2 ^ (unitE + 450) * 2 ^ (unitE + 450)) := Nat.mul_le_mul_right _ (by decide)
    refine Nat.le_trans e1 ?_
    rw [← Nat.pow_add, ← Nat.pow_add, ← Nat.pow_add]
    exact Nat.pow_le_pow_right (by decide) (by decide)
  exact Nat.le_of_mul_le_mul_right (Nat.le_trans h3 h4) (two_pow_pos _)

theorem scl_facts {b : Nat} (hb : safe b) (e : List Nat) : (∀ x, x ∈ e → safe x) → ∀ (o : List Nat) (n : Nat) (S : Int) (A : Nat), GFacts o n S A → n + 2 * e.length ≤ 200 → A + e.length * 2 ^ capS ≤ 100 * 2 ^ capS →
    (∃ S', GFacts (sclSt b o e) (n + 2 * e.length) S' (A + e.length * 2 ^ capS) ∧ S' * 2 ^ unitE = S * 2 ^ unitE + isum (e.map fval) * fval b) ∧
    (∀ k, k < e.length → runOK (prodLo (e.getD k 0) b) (sclSt b o (e.take k)) ∧ runOK (prodHi (e.getD k 0) b) (growW (prodLo (e.getD k 0) b) (sclSt b o (e.take k)))) ∧
    (∀ m : Nat, (∀ x, x ∈ o → (2 : Int) ^ m ∣ fval x) → (∀ x, x ∈ e → (2 : Int) ^ (m + unitE) ∣ fval x * fval b) → ∀ y, y ∈ sclSt b o e → (2 : Int) ^ m ∣ fval y) := by
  induction e with
  | nil => intro _ o n S A h _ _; exact ⟨⟨S, by simpa [sclSt] using h, by simp [isum]⟩, fun k hk => by simp at hk, fun m h _ => h⟩
  | cons x r ih =>
    intro he o n S A h hn hA
    have hx := he x (List.mem_cons_self ..)
    have hf := prod_facts hx hb
    have hpa := prod_abs hx hb
    simp only [List.length_cons] at hn hA
    have hA' : A + (r.length + 1) * 2 ^ capS = A + r.length * 2 ^ capS + 2 ^ capS := by rw [Nat.add_mul, Nat.one_mul]; omega
    rw [hA'] at hA
    have hbig : 100 * 2 ^ capS ≤ 2 ^ capE * 256 := by have := capS_le; generalize 2 ^ capS = P at *; omega
    obtain ⟨r1, g1⟩ := grow_step h hf.p9 (by omega) (by generalize 2 ^ capE = Q at *; generalize 2 ^ capS = P at *; generalize (fval (prodHi x b)).natAbs = H at *; generalize (fval (prodLo x b)).natAbs = L at *; generalize r.length * P = R at *; omega)
    obtain ⟨r2, g2⟩ := grow_step g1 hf.p1 (by omega) (by
      show _ + (fval (prodHi x b)).natAbs ≤ _
      generalize 2 ^ capE = Q at *; generalize 2 ^ capS = P at *; generalize (fval (prodHi x b)).natAbs = H at *; generalize (fval (prodLo x b)).natAbs = L at *; generalize r.length * P = R at *; omega)
    -- a weaker bound
    have g3 : GFacts (growW (prodHi x b) (growW (prodLo x b) o)) (n + 2) (S + fval (prodLo x b) + fval (prodHi x b)) (A + 2 ^ capS) := by
      refine ⟨g2.fins, g2.novs, g2.len, g2.sum, Nat.le_trans g2.abs ?_⟩
      refine Nat.mul_le_mul_left _ ?_
      show A + (fval (prodLo x b)).natAbs + (fval (prodHi x b)).natAbs ≤ _
      omega
    obtain ⟨⟨S', i1, i2⟩, i3, i4⟩ := ih (fun y hy => he y (List.mem_cons_of_mem _ hy)) _ _ _ _ g3 (by omega) (by generalize 2 ^ capS = P at *; generalize r.length * P = R at *; omega)
    refine ⟨⟨S', ?_, ?_⟩, ?_, ?_⟩
    · have e1 : n + 2 * (x :: r).length = n + 2 + 2 * r.length := by simp only [List.length_cons]; omega
      have e2 : A + (x :: r).length * 2 ^ capS = A + 2 ^ capS + r.length * 2 ^ capS := by simp only [List.length_cons]; rw [hA']; omega
      rw [e1, e2]
      exact i1
    · rw [i2]
      have v1 := hf.v1
      have v2 := hf.v2
      simp only [List.map_cons, isum]
      rw [Int.add_mul, Int.add_mul, v1, v2, Int.add_mul]
      omega
    · intro k hk
      cases k with
      | zero => exact ⟨r1, r2⟩
      | succ k =>
        have := i3 k (by simp only [List.length_cons] at hk; omega)
        exact this
    · intro m ho hxb
      refine i4 m ?_ (fun y hy => hxb y (List.mem_cons_of_mem _ hy))
      have hd := hxb x (List.mem_cons_self ..)
      have dv : ∀ z y : Int, y * 2 ^ unitE = z → (2 : Int) ^ (m + unitE) ∣ z → (2 : Int) ^ m ∣ y := by
        intro z y h1 h2
        obtain ⟨c, hc⟩ := h2
        refine ⟨c, ?_⟩
        rw [← h1, Int.pow_add] at hc
        apply Int.eq_of_mul_eq_mul_right (Int.ne_of_gt (Int.pow_pos (by omega) : (0 : Int) < 2 ^ unitE))
        rw [hc]; grind
      have d1 : (2 : Int) ^ m ∣ fval (prodHi x b) := dv _ _ hf.v1 (rn_dvd hd)
      have d2 : (2 : Int) ^ m ∣ fval (prodLo x b) := dv _ _ hf.v2 (Int.dvd_sub hd (rn_dvd hd))
      exact growW_dvd r2 m d1 (growW_dvd r1 m d2 ho)

theorem GFacts.nil : GFacts [] 0 0 0 := by
  refine ⟨?_, trivial, by simp, rfl, by simp [absSum]⟩
  intro x hx; cases hx

theorem scale_facts {e : List Nat} {b : Nat} (he : SafeL e) (hb : safe b) :
    runN (sclSt b [] e) ∧ (∃ S, ExpFacts (scaleW e b) S ∧ S * 2 ^ unitE = isum (e.map fval) * fval b) ∧
    (sclSt b [] e).length ≤ 1000 ∧ (∀ x, x ∈ sclSt b [] e → fin x) ∧
    (∀ k, k < e.length → runOK (prodLo (e.getD k 0) b) (sclSt b [] (e.take k)) ∧ runOK (prodHi (e.getD k 0) b) (growW (prodLo (e.getD k 0) b) (sclSt b [] (e.take k)))) ∧
    (∀ m : Nat, (∀ x, x ∈ e → (2 : Int) ^ (m + unitE) ∣ fval x * fval b) → ∀ y, y ∈ scaleW e b → (2 : Int) ^ m ∣ fval y) ∧
    absSum ((scaleW e b).map fval) ≤ 2 ^ capS * 1024 := by
  have hlen := he.len
  have hmul : e.length * 2 ^ capS ≤ 64 * 2 ^ capS := Nat.mul_le_mul_right _ hlen
  obtain ⟨⟨S, g, gs⟩, h2, h3⟩ := scl_facts hb e he.safe [] 0 0 0 GFacts.nil (by omega) (by generalize 2 ^ capS = P at *; generalize e.length * P = R at *; omega)
  have hw : absSum ((sclSt b [] e).map fval) ≤ 2 * (64 * 2 ^ capS) := by
    have h1 := g.abs
    have h4 : (2 ^ 40 + 2 * (0 + 2 * e.length)) * (0 + e.length * 2 ^ capS) ≤ 2 ^ 41 * (64 * 2 ^ capS) := Nat.mul_le_mul (by omega) (by omega)
    generalize 64 * 2 ^ capS = T at *
    omega
  have hb2 : absSum ((sclSt b [] e).map fval) ≤ 2 ^ capE * 256 := by
    have := capS_le
    generalize 2 ^ capS = P at *; omega
  have hr : runN (sclSt b [] e) := runN_of capE capE_ok _ g.fins g.novs (by have := g.len; omega) (Nat.le_trans hb2 (Nat.mul_le_mul_left _ (by decide)))
  have nf := neat_facts hr g.novs (by have := g.len; omega) (Nat.le_trans hb2 capE_big)
  refine ⟨hr, ⟨S, ⟨nf.fins, nf.nz, nf.novs, by unfold scaleW; rw [nf.sum, g.sum], by have := nf.abs; rw [g.sum] at this; exact this, nf.all⟩, by rw [gs]; simp⟩, by have := g.len; omega, g.fins, h2, ?_, ?_⟩
  · intro m hm
    exact nf.dvd m (h3 m (fun x hx => by cases hx) hm)
  · have n5 := nf.abs
    have n6 := isum_le ((sclSt b [] e).map fval)
    unfold scaleW
    generalize 2 ^ capS = P at *
    omega

set_option maxRecDepth 100000 in
set_option maxHeartbeats 2000000 in
theorem scale_walk (e : List Nat) (v : Value) (b : Nat) (he : SafeL e) (hb : safe b) (w : World) (hv : FSl w v e) :
    Calls Tryz.prog 255 #[v, .float .f64 b] w fun r w' => ∃ v', r = .returned (.tuple #[v', .bool true]) ∧ FSl w' v' (scaleW e b) ∧ Below w.heap.size w w' := by
  have HSA := Lib.hid (safe_all_walk e v he.fins w hv)
  rw [he.all] at HSA
  have HW : Hid (∀ w, Calls Tryz.prog 281 #[.float .f64 b, .float .f64 2580562586483294208, .float .f64 6633802251116740608] w fun r w' => r = .returned (.bool true) ∧ w = w') := fun w => by
    have := within_any b 2580562586483294208 6633802251116740608 hb.1.1 w
    rw [within_of_safe hb] at this; exact this
  have hb0 : fval b ≠ 0 := by
    intro h
    have h2 := hb.2.1
    rw [h] at h2
    have := two_pow_pos (unitE - 450)
    simp at h2
  have hbn : fne b 0 = true := by rw [fne_zero hb.1]; simpa using hb0
  have hbe : feq b 0 = false := by rw [feq_zero hb.1]; simpa using hb0
  obtain ⟨f1, ⟨S, f2, _⟩, f3, f4, f5, _, _⟩ := scale_facts he hb
  have HPR := Lib.hid (fun x hx => prod_walk x b (he.safe x hx) hb)
  have HR := Lib.hid f5
  have hel := he.len
  obtain ⟨ad, cap, rfl, hcell⟩ := hv.form
  have HC := Lib.hid hcell
  have HN : Hid (∀ w v, FSl w v (sclSt b [] e) → Calls Tryz.prog 303 #[v] w fun r w' => ∃ v', r = .returned v' ∧ OwnF w' w.heap.size v' (scaleW e b) ∧ Below w.heap.size w w') :=
    fun w v hv => neat_walk (sclSt b [] e) v f1 (by omega) w hv
  have HF := Lib.hid f2
  have HL := Lib.hid f3
  have H64 : Hid (∀ x, x ∈ sclSt b [] e → x < 2 ^ 64) := fun x hx => (f4 x hx).1
  have hl64 : (scaleW e b).length ≤ 64 := by
    have := f2.all
    unfold allB at this
    rw [Bool.and_eq_true] at this
    exact of_decide_eq_true this.1
  have HPL := Lib.hid hl64
  clear he hb hv hcell f1 f2 f3 f4 f5 hl64 hb0
  go_enter Tryz.func255, Tryz.ntmps255
  go_wp2_with (first | (go_at_call 254; refine (HSA.out).mono ?_; rintro r w' ⟨rfl, rfl⟩) | (go_at_call 281; refine (HW.out _).mono ?_; rintro r w' ⟨rfl, rfl⟩))
  go_loopw [6, 29] (fun out i wr => ∃ n : Nat, n ≤ e.length ∧ i = .int .i64 n ∧ Hid ((sclSt b [] (e.take n)).length ≤ 2 * n) ∧ Hid (FSl wr out (sclSt b [] (e.take n))) ∧ Below w.heap.size w wr) (fun _ i _ => e.length - (intOf i).toNat)
  case atStart => exact ⟨0, Nat.zero_le _, rfl, by simp [Hid, sclSt], ⟨by simp [sclSt], by simp [sclSt], Or.inl ⟨rfl, rfl⟩⟩, Below.refl _ _⟩
  case round =>
    obtain ⟨n, hn, rfl, HLn, HO, hbw⟩ := hrel
    by_cases hlt : n < e.length
    · obtain ⟨bb, off, rfl, hbb, hc⟩ := HC.out (by omega)
      have hck : wr.cell? ⟨bb, off + n, none⟩ = some (.float .f64 (e.getD n 0)) := (hbw.cell (p := ⟨bb, off + n, none⟩) hbb).trans (hc n hlt)
      have HP := Lib.hid (HPR.out (e.getD n 0) (getD_mem hlt))
      obtain ⟨r1, r2⟩ := HR.out n hlt
      have hsn := sclSt_snoc b (e.take n) (e.getD n 0) []
      rw [← take_snoc' e n hlt] at hsn
      have hl1 := HLn.out
      have hgl1 := growW_len (prodLo (e.getD n 0) b) (sclSt b [] (e.take n))
      have hgl2 := growW_len (prodHi (e.getD n 0) b) (growW (prodLo (e.getD n 0) b) (sclSt b [] (e.take n)))
      have HGL : Hid ((sclSt b [] (e.take (n + 1))).length ≤ 2 * (n + 1)) := by rw [hsn]; unfold Hid; omega
      have HS := Lib.hid hsn
      have G1 := Lib.hid (fun w v => grow_walk (sclSt b [] (e.take n)) v (prodLo (e.getD n 0) b) r1 (by omega) w)
      have G2 := Lib.hid (fun w v => grow_walk (growW (prodLo (e.getD n 0) b) (sclSt b [] (e.take n))) v (prodHi (e.getD n 0) b) r2 (by omega) w)
      have F1 : Hid (∀ x, x ∈ growW (prodLo (e.getD n 0) b) (sclSt b [] (e.take n)) → x < 2 ^ 64) := fun x hx => ((growW_vals r1).2 x hx).1
      have F2 : Hid (∀ x, x ∈ growW (prodHi (e.getD n 0) b) (growW (prodLo (e.getD n 0) b) (sclSt b [] (e.take n))) → x < 2 ^ 64) := fun x hx => ((growW_vals r2).2 x hx).1
      have L1 : Hid ((growW (prodLo (e.getD n 0) b) (sclSt b [] (e.take n))).length ≤ 4294967296) := by unfold Hid; omega
      have L2 : Hid ((growW (prodHi (e.getD n 0) b) (growW (prodLo (e.getD n 0) b) (sclSt b [] (e.take n)))).length ≤ 4294967296) := by unfold Hid; omega
      clear hc r1 r2 hsn hl1 hgl1 hgl2 HR HN H64 HL
      generalize prodLo (e.getD n 0) b = lo at *
      generalize prodHi (e.getD n 0) b = hi at *
      generalize e.getD n 0 = x at *
      generalize sclSt b [] (e.take n) = o at *
      generalize hO1 : growW lo o = o1 at *
      clear hO1
      generalize hO2 : growW hi o1 = o2 at *
      clear hO2
      go_wp2_with (first
        | (go_at_call 300; refine (HP.out _).mono ?_; rintro r w1 ⟨rfl, hb1⟩; have ho1 := HO.out.below hb1)
        | (go_at_call 301; (first
            | (with_reducible refine (G1.out _ _ ho1).mono ?_; rintro r w2 ⟨v2, rfl, hown2, hb2⟩; have ho2 := FSl_of_own hown2 L1.out F1.out)
            | (with_reducible refine (G2.out _ _ ho2).mono ?_; rintro r w3 ⟨v3, rfl, hown3, hb3⟩; have ho3 := FSl_of_own hown3 L2.out F2.out))))
      have s1 := hb1.size
      have s2 := hb2.size
      have s3 := hb3.size
      have s0 := hbw.size
      go_roundw
      case rel => exact ⟨n + 1, by omega, by go_num, HGL, by rw [HS.out]; exact ho3, ((hbw.trans (hb1.mono s0)).trans (hb2.mono (by omega))).trans (hb3.mono (by omega))⟩
      case measure => simp [intOf]; omega
    · have hnl : n = e.length := by omega
      subst hnl
      have HO2 : Hid (FSl wr u6 (sclSt b [] e)) := by have := HO.out; rw [List.take_of_length_le (Nat.le_refl _)] at this; exact this
      clear HO HLn HR
      go_wp2_with (first
        | (go_at_call 303; refine (HN.out _ _ HO2.out).mono ?_; rintro r w1 ⟨v1, rfl, hown1, hb1⟩; have hfs := FSl_of_own hown1 (by have := HPL.out; omega) (fun x hx => (HF.out.fins x hx).1))
        | (go_at_call 302; refine (apart_walk (scaleW e b) _ HF.out.fins HF.out.all _ hfs).mono ?_; rintro r w2 ⟨rfl, rfl⟩))
      go_ret2
      exact ⟨_, rfl, hfs, hbw.trans (hb1.mono hbw.size)⟩

end Go.Proofs.YtdoaniccefdkaaaGreatDoor
