/- Part of the proof. No conditions. -/
import Derived.Test.YtdoaniccefdkaaaGreatDoorZ4
import Derived.Deep.QuietTactic
import Derived.BigQuiet

set_option linter.all false
/- expand.neat: on words, and its walk. -/
namespace Go.Proofs.YtdoaniccefdkaaaGreatDoor
open Go.RowKit Tvf

/-- the first pass, from the greatest on -/
def st1 : Nat → List Nat → List Nat × Nat
  | q, [] => ([], q)
  | q, x :: r => if fne (sumLo q x) 0 then (sumHi q x :: (st1 (sumLo q x) r).1, (st1 (sumLo q x) r).2) else st1 (sumHi q x) r

theorem st1_snoc (l : List Nat) (x : Nat) : ∀ q, st1 q (l ++ [x]) = if fne (sumLo (st1 q l).2 x) 0 then ((st1 q l).1 ++ [sumHi (st1 q l).2 x], sumLo (st1 q l).2 x) else ((st1 q l).1, sumHi (st1 q l).2 x) := by
  induction l with
  | nil => intro q; simp only [List.nil_append, st1]; rfl
  | cons y r ih =>
    intro q
    simp only [List.cons_append, st1]
    split
    · rw [ih]; split <;> rfl
    · rw [ih]

def run1 : Nat → List Nat → Prop
  | q, [] => tame q
  | q, x :: r => tame q ∧ tame x ∧ run1 (if fne (sumLo q x) 0 then sumLo q x else sumHi q x) r

theorem run1_at {l : List Nat} : ∀ {q : Nat}, run1 q l → ∀ k, k ≤ l.length → tame (st1 q (l.take k)).2 ∧ (k < l.length → tame (l.getD k 0)) := by
  induction l with
  | nil => intro q h k hk; simp at hk; subst hk; exact ⟨h, fun h => by simp at h⟩
  | cons x r ih =>
    intro q h k hk
    cases k with
    | zero => exact ⟨h.1, fun _ => h.2.1⟩
    | succ k =>
      have := ih h.2.2 k (by simp at hk; omega)
      refine ⟨?_, fun hh => this.2 (by simp at hh; omega)⟩
      simp only [List.take_succ_cons, st1]
      split
      · rename_i hc; rw [if_pos hc] at this; exact this.1
      · rename_i hc; rw [if_neg hc] at this; exact this.1

theorem st1_len (l : List Nat) : ∀ q, (st1 q l).1.length ≤ l.length := by
  induction l with
  | nil => intro q; simp [st1]
  | cons x r ih =>
    intro q; unfold st1
    split
    · have := ih (sumLo q x); simp only [List.length_cons]; omega
    · have := ih (sumHi q x); simp only [List.length_cons]; omega

theorem st1_vals {l : List Nat} : ∀ {q : Nat}, run1 q l → ((st1 q l).1.map fval).reverse = (p1 (fval q) (l.map fval)).1 ∧ fval (st1 q l).2 = (p1 (fval q) (l.map fval)).2 ∧ fin (st1 q l).2 ∧ ∀ x, x ∈ (st1 q l).1 → fin x := by
  induction l with
  | nil => intro q h; exact ⟨rfl, rfl, h.1, fun x hx => by cases hx⟩
  | cons x r ih =>
    intro q h
    obtain ⟨s1, _, _, _, _, s6, s7, s8⟩ := sum_fin h.1 h.2.1
    have hi := h.2.2
    simp only [List.map_cons, st1, p1]
    rw [← s8, ← s7]
    rw [fne_zero s6] at hi ⊢
    by_cases h0 : fval (sumLo q x) = 0
    · have hd : decide (fval (sumLo q x) ≠ 0) = false := by simpa using h0
      rw [if_pos h0, hd]
      rw [hd] at hi
      exact ih hi
    · have hd : decide (fval (sumLo q x) ≠ 0) = true := by simpa using h0
      rw [if_neg h0, hd, if_pos rfl]
      rw [hd, if_pos rfl] at hi
      have := ih hi
      refine ⟨by simp only [List.map_cons, List.reverse_cons, this.1], this.2.1, this.2.2.1, ?_⟩
      intro y hy
      rcases List.mem_cons.1 hy with e | e
      · rw [e]; exact s1
      · exact this.2.2.2 y e

theorem run1_of (K : Nat) (hK : K + 11 ≤ unitE + 1000) (l : List Nat) : ∀ q, fin q → (∀ x, x ∈ l → fin x) → l.length ≤ 1024 → (fval q).natAbs + absSum (l.map fval) ≤ 2 ^ K * (2048 - l.length) → run1 q l := by
  have hbig : 2 ^ K * 2048 ≤ 2 ^ (unitE + 1000) := by
    have : 2 ^ K * 2 ^ 11 ≤ 2 ^ (unitE + 1000) := by rw [← Nat.pow_add]; exact Nat.pow_le_pow_right (by omega) hK
    exact this
  induction l with
  | nil =>
    intro q hq _ _ hb
    refine ⟨hq, ?_⟩
    simp only [List.map_nil, absSum, List.length_nil] at hb
    generalize 2 ^ K = P at *
    generalize 2 ^ (unitE + 1000) = T at *
    omega
  | cons x r ih =>
    intro q hq hl hlen hb
    have hx := hl x (List.mem_cons_self ..)
    simp only [List.map_cons, absSum, List.length_cons] at hb hlen
    have hle : 2 ^ K * (2048 - (r.length + 1)) ≤ 2 ^ K * 2048 := Nat.mul_le_mul_left _ (by omega)
    have tq : tame q := ⟨hq, by generalize 2 ^ (unitE + 1000) = T at *; omega⟩
    have tx : tame x := ⟨hx, by generalize 2 ^ (unitE + 1000) = T at *; omega⟩
    obtain ⟨s1, _, _, _, _, s6, s7, s8⟩ := sum_fin tq tx
    have hr := rest_small (fval q + fval x)
    have e : 2 ^ K * (2048 - r.length) = 2 ^ K * (2048 - (r.length + 1)) + 2 ^ K := by
      rw [show 2048 - r.length = 2048 - (r.length + 1) + 1 by omega, Nat.mul_add, Nat.mul_one]
    have hr' : ∀ y, y ∈ r → fin y := fun y hy => hl y (List.mem_cons_of_mem _ hy)
    refine ⟨tq, tx, ?_⟩
    split
    · refine ih _ s6 hr' (by omega) ?_
      rw [s8, e]
      generalize 2 ^ K * (2048 - (r.length + 1)) = C at *
      generalize 2 ^ K = P at *
      generalize fval q = Q at *
      generalize fval x = X at *
      generalize absSum (r.map fval) = S at *
      clear ih hl s1 s6 s7 s8 tq tx hbig
      omega
    · refine ih _ s1 hr' (by omega) ?_
      rw [s7, e]
      generalize 2 ^ K * (2048 - (r.length + 1)) = C at *
      generalize 2 ^ K = P at *
      generalize fval q = Q at *
      generalize fval x = X at *
      generalize absSum (r.map fval) = S at *
      clear ih hl s1 s6 s7 s8 tq tx hbig
      omega

/-- the second pass: growing, the addends turned about -/
def gqS : Nat → List Nat → Nat
  | q, [] => q
  | q, x :: r => gqS (sumHi x q) r
def goutS : Nat → List Nat → List Nat
  | _, [] => []
  | q, x :: r => keepF (sumLo x q) ++ goutS (sumHi x q) r
def growS (b : Nat) (l : List Nat) : List Nat := goutS b l ++ keepF (gqS b l)
def runS : Nat → List Nat → Prop
  | q, [] => tame q
  | q, x :: r => tame q ∧ tame x ∧ runS (sumHi x q) r

theorem gqS_snoc (l : List Nat) (x : Nat) : ∀ q, gqS q (l ++ [x]) = sumHi x (gqS q l) := by
  induction l with
  | nil => intro q; rfl
  | cons y r ih => intro q; exact ih _
theorem goutS_snoc (l : List Nat) (x : Nat) : ∀ q, goutS q (l ++ [x]) = goutS q l ++ keepF (sumLo x (gqS q l)) := by
  induction l with
  | nil => intro q; simp [goutS, gqS]
  | cons y r ih => intro q; simp only [List.cons_append, goutS, gqS, ih, List.append_assoc]
theorem goutS_len (l : List Nat) : ∀ q, (goutS q l).length ≤ l.length := by
  induction l with
  | nil => intro q; simp [goutS]
  | cons x r ih =>
    intro q; unfold goutS
    have := ih (sumHi x q)
    rw [List.length_append, List.length_cons]
    unfold keepF
    split <;> simp <;> omega
theorem runS_at {l : List Nat} : ∀ {q : Nat}, runS q l → ∀ k, k ≤ l.length → tame (gqS q (l.take k)) ∧ (k < l.length → tame (l.getD k 0)) := by
  induction l with
  | nil => intro q h k hk; simp at hk; subst hk; exact ⟨h, fun h => by simp at h⟩
  | cons x r ih =>
    intro q h k hk
    cases k with
    | zero => exact ⟨h.1, fun _ => h.2.1⟩
    | succ k =>
      have := ih h.2.2 k (by simp at hk; omega)
      exact ⟨this.1, fun hh => this.2 (by simp at hh; omega)⟩

theorem growS_vals {l : List Nat} : ∀ {q : Nat}, runS q l → (growS q l).map fval = growGo (fval q) (l.map fval) ∧ ∀ x, x ∈ growS q l → fin x := by
  induction l with
  | nil =>
    intro q h
    have := keepF_vals h.1
    exact ⟨this.1, this.2⟩
  | cons x r ih =>
    intro q h
    obtain ⟨_, _, _, _, _, s6, s7, s8⟩ := sum_fin h.2.1 h.1
    have := ih h.2.2
    unfold growS at this ⊢
    have hk := keepF_vals s6
    simp only [goutS, gqS, List.map_cons, growGo]
    rw [show fval q + fval x = fval x + fval q by omega, ← s8, ← s7]
    by_cases h0 : fval (sumLo x q) = 0
    · rw [if_pos h0] at hk ⊢
      have hk1 : keepF (sumLo x q) = [] := by simpa using hk.1
      rw [hk1, List.nil_append]; exact this
    · rw [if_neg h0] at hk ⊢
      refine ⟨by rw [List.append_assoc, List.map_append, hk.1, this.1]; rfl, ?_⟩
      intro y hy
      rw [List.append_assoc] at hy
      rcases List.mem_append.1 hy with e | e
      · exact hk.2 y e
      · exact this.2 y e

theorem runS_of (K : Nat) (hK : K + 11 ≤ unitE + 1000) (l : List Nat) : ∀ q, fin q → (∀ x, x ∈ l → fin x) → l.length ≤ 1024 → (fval q).natAbs + absSum (l.map fval) ≤ 2 ^ K * (2048 - l.length) → runS q l := by
  have hbig : 2 ^ K * 2048 ≤ 2 ^ (unitE + 1000) := by
    have : 2 ^ K * 2 ^ 11 ≤ 2 ^ (unitE + 1000) := by rw [← Nat.pow_add]; exact Nat.pow_le_pow_right (by omega) hK
    exact this
  induction l with
  | nil =>
    intro q hq _ _ hb
    refine ⟨hq, ?_⟩
    simp only [List.map_nil, absSum, List.length_nil] at hb
    generalize 2 ^ K = P at *
    generalize 2 ^ (unitE + 1000) = T at *
    omega
  | cons x r ih =>
    intro q hq hl hlen hb
    have hx := hl x (List.mem_cons_self ..)
    simp only [List.map_cons, absSum, List.length_cons] at hb hlen
    have hle : 2 ^ K * (2048 - (r.length + 1)) ≤ 2 ^ K * 2048 := Nat.mul_le_mul_left _ (by omega)
    have tq : tame q := ⟨hq, by generalize 2 ^ (unitE + 1000) = T at *; omega⟩
    have tx : tame x := ⟨hx, by generalize 2 ^ (unitE + 1000) = T at *; omega⟩
    obtain ⟨s1, _, _, _, _, s6, s7, s8⟩ := sum_fin tx tq
    refine ⟨tq, tx, ih _ s1 (fun y hy => hl y (List.mem_cons_of_mem _ hy)) (by omega) ?_⟩
    rw [s7]
    have hr := rest_small (fval x + fval q)
    have e : 2 ^ K * (2048 - r.length) = 2 ^ K * (2048 - (r.length + 1)) + 2 ^ K := by
      rw [show 2048 - r.length = 2048 - (r.length + 1) + 1 by omega, Nat.mul_add, Nat.mul_one]
    rw [e]
    generalize 2 ^ K * (2048 - (r.length + 1)) = C at *
    generalize 2 ^ K = P at *
    generalize fval q = Q at *
    generalize fval x = X at *
    generalize absSum (r.map fval) = S at *
    clear ih hl s1 s6 s7 s8 tq tx hbig
    omega

/-- the neat form, on words -/
def neatW (l : List Nat) : List Nat :=
  match l.reverse with
  | [] => []
  | q :: d => growS (st1 q d).2 (st1 q d).1.reverse

/-- all on the way is tame -/
def runN (l : List Nat) : Prop :=
  match l.reverse with
  | [] => True
  | q :: d => run1 q d ∧ runS (st1 q d).2 (st1 q d).1.reverse

theorem neatW_vals {l : List Nat} (h : runN l) : (neatW l).map fval = neatI (l.map fval) ∧ ∀ x, x ∈ neatW l → fin x := by
  unfold runN at h
  unfold neatW neatI
  rw [← List.map_reverse]
  generalize l.reverse = d at *
  cases d with
  | nil => exact ⟨rfl, fun x hx => by cases hx⟩
  | cons q d =>
    simp only [List.map_cons] at *
    obtain ⟨a1, a2, a3, a4⟩ := st1_vals h.1
    have := growS_vals h.2
    rw [List.map_reverse, a1, a2] at this
    exact this

theorem runN_of (K : Nat) (hK : K + 11 ≤ unitE + 1000) (l : List Nat) (hf : ∀ x, x ∈ l → fin x) (hn : nov 0 (l.map fval)) (hlen : l.length ≤ 1000) (hb : absSum (l.map fval) ≤ 2 ^ K * 300) : runN l := by
  have hdn := dn_of_nov hn
  rw [← List.map_reverse] at hdn
  have hmem : ∀ y, y ∈ l.reverse ↔ y ∈ l := fun y => List.mem_reverse
  have hl2 : l.reverse.length = l.length := List.length_reverse
  have hab : absSum (l.reverse.map fval) = absSum (l.map fval) := by
    have gen : ∀ a : List Int, absSum a.reverse = absSum a := by
      intro a
      induction a with
      | nil => rfl
      | cons x r ih => rw [List.reverse_cons, absSum_append, ih]; simp only [absSum]; omega
    rw [List.map_reverse, gen]
  unfold runN
  generalize l.reverse = d at *
  cases d with
  | nil => trivial
  | cons q d =>
    simp only [List.map_cons, absSum, List.length_cons] at *
    have hq : fin q := hf q ((hmem q).1 (List.mem_cons_self ..))
    have hd : ∀ y, y ∈ d → fin y := fun y hy => hf y ((hmem y).1 (List.mem_cons_of_mem _ hy))
    have hle : 2 ^ K * 300 ≤ 2 ^ K * (2048 - d.length) := Nat.mul_le_mul_left _ (by omega)
    have r1 := run1_of K hK d q hq hd (by omega) (by omega)
    obtain ⟨a1, a2, a3, a4⟩ := st1_vals r1
    refine ⟨r1, runS_of K hK _ _ a3 (fun x hx => a4 x (by simpa using hx)) (by have := st1_len d q; rw [List.length_reverse]; omega) ?_⟩
    have htop := p1_top (d.map fval) (fval q) hdn.2.1 hdn.2.2
    have hlen1 := st1_len d q
    have hle2 : 2 ^ K * 1024 ≤ 2 ^ K * (2048 - (st1 q d).1.reverse.length) := Nat.mul_le_mul_left _ (by rw [List.length_reverse]; omega)
    rw [List.map_reverse, a1, a2]
    have hT := isum_le (d.map fval)
    refine Nat.le_trans ?_ hle2
    rcases htop with ⟨g1, g2⟩ | ⟨gs, g, g1, g2, g3, g4, g5, g6⟩
    · rw [g1, g2]; simp only [absSum]
      generalize 2 ^ K = P at *
      omega
    · rw [g1, absSum_append]; simp only [absSum]
      generalize 2 ^ K = P at *
      generalize absSum gs = A at *
      generalize (p1 (fval q) (d.map fval)).2 = F at *
      generalize isum (d.map fval) = T at *
      omega

end Go.Proofs.YtdoaniccefdkaaaGreatDoor

/- The walk of expand.neat. -/
namespace Go.Proofs.YtdoaniccefdkaaaGreatDoor
open Go.RowKit Tvf

/-- of a list that is not empty: its last, and the others from behind -/
theorem rev_parts (l : List Nat) (h : 0 < l.length) : ∃ d, l.reverse = l.getD (l.length - 1) 0 :: d ∧ d.length = l.length - 1 ∧ ∀ c, c < d.length → d.getD c 0 = l.getD (l.length - 2 - c) 0 := by
  have hr : ∀ i, i < l.length → l.reverse.getD i 0 = l.getD (l.length - 1 - i) 0 := by
    intro i hi
    rw [List.getD_eq_getElem?_getD, List.getElem?_reverse hi, ← List.getD_eq_getElem?_getD]
  have hlen : l.reverse.length = l.length := List.length_reverse
  cases hd : l.reverse with
  | nil => rw [hd] at hlen; simp at hlen; omega
  | cons q d =>
    rw [hd] at hr hlen
    simp only [List.length_cons] at hlen
    refine ⟨d, ?_, by omega, ?_⟩
    · have := hr 0 h
      simp at this
      rw [this]; simp
    · intro c hc
      have := hr (c + 1) (by omega)
      rw [show l.length - 1 - (c + 1) = l.length - 2 - c by omega] at this
      rw [← this]; rfl

theorem getD_rev (l : List Nat) (i : Nat) (h : i < l.length) : l.reverse.getD i 0 = l.getD (l.length - 1 - i) 0 := by
  rw [List.getD_eq_getElem?_getD, List.getElem?_reverse h, ← List.getD_eq_getElem?_getD]

theorem OwnF.cell {w : World} {base : Nat} {v : Value} {l : List Nat} (h : OwnF w base v l) : ∃ ad cap, v = .slice ad l.length cap ∧ (0 < l.length → ∃ b : Nat, ad = some ⟨b, 0, none⟩ ∧ base ≤ b ∧ b < w.heap.size ∧ ∀ i, i < l.length → w.cell? ⟨b, i, none⟩ = some (.float .f64 (l.getD i 0))) := by
  have hlt := World.ownsRow.lt h
  have hcells := fun {g : Nat} (hg : v.ownBlock = some g) => World.ownsRow.cells h hg
  obtain ⟨h1, ⟨h2, h3⟩ | ⟨g, cap, cur, e1, e2, e3, e4, e5, e6, e7⟩⟩ := h
  · exact ⟨none, 0, by rw [h2, h3], fun h => by omega⟩
  · refine ⟨_, cap, e1, fun _ => ⟨g, rfl, e2, (hlt g (by rw [e1]; rfl)).2, ?_⟩⟩
    intro i hi
    have := hcells (g := g) (by rw [e1]; rfl) i (.float .f64 (l.getD i 0)) (by
      rw [List.getElem?_map, List.getElem?_eq_getElem hi, List.getD_eq_getElem?_getD, List.getElem?_eq_getElem hi]; rfl)
    by_cases h0 : i = 0
    · subst h0; simpa [Addr.add] using this
    · simpa [Addr.add, h0] using this

theorem ownsRow_base {w : World} {base base' : Nat} {e : TypeId} {size : Nat} {v : Value} {n : Nat} {xs : List Value} (h : w.ownsRow base e size v n xs) (hb : base' ≤ base) : w.ownsRow base' e size v n xs := by
  obtain ⟨h1, h2 | ⟨g, cap, cur, e1, e2, e3⟩⟩ := h
  · exact ⟨h1, Or.inl h2⟩
  · exact ⟨h1, Or.inr ⟨g, cap, cur, e1, Nat.le_trans hb e2, e3⟩⟩

set_option maxRecDepth 100000 in
set_option maxHeartbeats 400000 in
theorem neat_nil (ad : Option Addr) (cap : Nat) (w : World) :
    Calls Tryz.prog 303 #[.slice ad 0 cap] w fun e w' => ∃ v', e = .returned v' ∧ OwnF w' w.heap.size v' [] ∧ Below w.heap.size w w' := by
  go_enter Tryz.func303, Tryz.ntmps303
  go_wp2
  go_ret
  exact ⟨_, rfl, World.ownsRow_nil _ _ _ _, Below.refl _ _⟩

set_option maxRecDepth 100000 in
set_option maxHeartbeats 2000000 in
theorem neat_some (l : List Nat) (ad : Option Addr) (cap : Nat) (hr : runN l) (hlen : l.length ≤ 1024) (h0 : 0 < l.length) (w : World)
    (hcell : ∃ b off : Nat, ad = some ⟨b, off, none⟩ ∧ b < w.heap.size ∧ ∀ i, i < l.length → w.cell? ⟨b, off + i, none⟩ = some (.float .f64 (l.getD i 0))) :
    Calls Tryz.prog 303 #[.slice ad l.length cap] w fun e w' => ∃ v', e = .returned v' ∧ OwnF w' w.heap.size v' (neatW l) ∧ Below w.heap.size w w' := by
  obtain ⟨bb, off, rfl, hbb, hc⟩ := hcell
  obtain ⟨i0, hi, hz0, hz1, hz2⟩ := info_parts infoF
  obtain ⟨d, hd, hdl, hdg⟩ := rev_parts l h0
  have HN : Hid (neatW l = growS (st1 (l.getD (l.length - 1) 0) d).2 (st1 (l.getD (l.length - 1) 0) d).1.reverse) := by unfold Hid neatW; rw [hd]
  have HR : Hid (run1 (l.getD (l.length - 1) 0) d ∧ runS (st1 (l.getD (l.length - 1) 0) d).2 (st1 (l.getD (l.length - 1) 0) d).1.reverse) := by
    unfold runN at hr; rw [hd] at hr; exact hr
  have HC := Lib.hid hc
  have hlast := hc (l.length - 1) (by omega)
  have HDG := Lib.hid hdg
  have HDL := Lib.hid hdl
  have hl1 : ((l.length : Int) == 0) = false := by rw [beq_eq_false_iff_ne]; omega
  have hi1 : ((l.length : Int) - 1).toNat = l.length - 1 := by omega
  clear hr hc hd hdg hdl
  generalize l.getD (l.length - 1) 0 = q0 at *
  go_enter Tryz.func303, Tryz.ntmps303
  go_wp2_with (at_make; refine wpList_make_own _ rfl _ _ 227 rfl w.heap.size 50 i0 (.float .f64 0) 1 Tryz.underlying227 hi hz0 hz1 _ _ _ l.length rfl rfl ?c1 ?c2 ?c3 (Nat.le_refl _) ?_)
  case c1 => omega
  case c2 => rw [hz2]; omega
  case c3 => unfold maxLen; omega
  intro w0 hown0 hgrow0
  have hb0 : Below w.heap.size w w0 := (Below.refl _ _).grown hgrow0 (Nat.le_refl _) (fun k hk => by cases hk)
  clear hgrow0
  have hlast0 : w0.cell? ⟨bb, off + (l.length - 1), none⟩ = some (.float .f64 q0) := (hb0.cell (p := ⟨bb, off + (l.length - 1), none⟩) hbb).trans hlast
  clear hlast
  go_wp2
  go_loopw [3, 4, 5] (fun g q i wr => ∃ c : Nat, c ≤ d.length ∧ i = .int .i64 ((l.length : Int) - 2 - c) ∧ q = .float .f64 (st1 q0 (d.take c)).2 ∧ OwnF wr w.heap.size g (st1 q0 (d.take c)).1 ∧ Below w.heap.size w wr) (fun _ _ i _ => (intOf i + 1).toNat)
  case atStart => exact ⟨0, Nat.zero_le _, by go_num, rfl, hown0, hb0⟩
  case round =>
    clear hown0 hb0 hlast0
    obtain ⟨c, hk, rfl, rfl, hown, hbw⟩ := hrel
    have HDL2 := HDL.out
    by_cases hlt : c < d.length
    · have hck : wr.cell? ⟨bb, off + (l.length - 2 - c), none⟩ = some (.float .f64 (d.getD c 0)) := by
        rw [HDG.out c hlt]
        exact (hbw.cell (p := ⟨bb, off + (l.length - 2 - c), none⟩) hbb).trans (HC.out _ (by omega))
      have hi2 : ((l.length : Int) - 2 - c).toNat = l.length - 2 - c := by omega
      have hge : (0 : Int) ≤ (l.length : Int) - 2 - c := by omega
      have hltn : l.length - 2 - c < l.length := by omega
      have hRk := run1_at HR.1 c (by omega)
      have hst := st1_snoc (d.take c) (d.getD c 0) q0
      rw [← take_snoc' d c hlt] at hst
      have HS := Lib.hid (sum_walk (st1 q0 (d.take c)).2 (d.getD c 0) hRk.1 (hRk.2 hlt))
      have hll := st1_len (d.take c) q0
      have hll2 : (d.take c).length = c := by rw [List.length_take]; omega
      have HST := Lib.hid hst
      have HL : Hid ((st1 q0 (d.take c)).1.length ≤ c) := by unfold Hid; omega
      have HDL3 : Hid (d.length = l.length - 1) := HDL
      have hcl : (c : Int) + 2 ≤ l.length := by omega
      clear hRk hst hll hll2 HDL2
      generalize d.getD c 0 = x at *
      generalize (st1 q0 (d.take c)).2 = q at *
      generalize (st1 q0 (d.take c)).1 = o at *
      cases hne : fne (sumLo q x) 0
      · rw [hne] at HST
        go_wp2_with (go_at_call 253; refine (HS.out _).mono ?_; rintro e w1 ⟨rfl, hb1⟩)
        go_roundw
        case rel => exact ⟨c + 1, by omega, by go_num, by rw [HST.out]; rfl, by rw [HST.out]; exact ownsRow_below hown hb1, hbw.trans (hb1.mono hbw.size)⟩
        case measure => simp [intOf]; omega
      · rw [hne] at HST
        go_wp2_with (first
          | (go_at_call 253; refine (HS.out _).mono ?_; rintro e w1 ⟨rfl, hb1⟩; have hown1 := ownsRow_below hown hb1; clear hown)
          | (at_builtin; refine wpList_append_own _ rfl _ _ 227 rfl w.heap.size 50 i0 (.float .f64 0) 1 8 Tryz.underlying227 hi hz0 hz1 hz2 rfl (by decide) _ _ _ rfl (hown1.alloc _) ⟨w1.heap.size, 0, none⟩ 1 1 [.float .f64 (sumHi q x)] rfl rfl ?c1 ?c2 ?c3 ?c4 ?c5 ?_))
        case c1 =>
          intro j u hj
          match j, hj with
          | 0, hj => simp at hj; subst hj; simp [Addr.add]
        case c2 => exact float_oneCell _
        case c3 => have := HL.out; unfold maxLen; omega
        case c4 => have := HL.out; omega
        case c5 => have := hbw.size; have := hb1.size; simp; omega
        intro v' w2 hown2 hgrow2 _
        have hlt1 := World.ownsRow.lt hown1
        have hbw2 : Below w.heap.size w w2 := ((hbw.trans (hb1.mono hbw.size)).alloc (by have := hbw.size; have := hb1.size; omega) _).grown hgrow2 (by have := hbw.size; have := hb1.size; simp; omega) (fun kk hkk => (hlt1 kk hkk).1)
        have hown3 : OwnF w2 w.heap.size v' (o ++ [sumHi q x]) := by unfold OwnF; rw [List.length_append, List.map_append]; exact hown2
        clear hown2 hgrow2 hown1 hlt1 hb1 hck
        go_wp2
        go_roundw
        case rel => exact ⟨c + 1, by omega, by go_num, by rw [HST.out]; rfl, by rw [HST.out]; exact hown3, hbw2⟩
        case measure => simp [intOf]; omega
    · have hcl : c = d.length := by omega
      have htk : d.take c = d := List.take_of_length_le (by omega)
      rw [htk] at hown
      rw [htk]
      have hgl := st1_len d q0
      have HRS : Hid (runS (st1 q0 d).2 (st1 q0 d).1.reverse) := HR.2
      have HLg : Hid ((st1 q0 d).1.length ≤ l.length) := by unfold Hid; omega
      have hneg : (l.length : Int) - 2 - c < 0 := by omega
      have hll1024 : Hid (l.length ≤ 1024) := hlen
      clear hcl htk hgl HR HC HDG HDL HDL2 hlt hk hlen hi1 hl1
      generalize (st1 q0 d).2 = q1 at *
      generalize (st1 q0 d).1 = g at *
      obtain ⟨gad, gcap, rfl, hgc⟩ := OwnF.cell hown
      have HGC := Lib.hid hgc
      have hgle := HLg.out
      have hl1k := hll1024.out
      clear hgc hown
      go_wp2
      obtain ⟨wo, rfl⟩ : ∃ wo : World, wo = wr := ⟨_, rfl⟩
      have hbws := hbw.size
      have HGL : Hid ((goutS q1 g.reverse).length ≤ g.length) := by have := goutS_len g.reverse q1; unfold Hid; rw [List.length_reverse] at this; exact this
      have hrl : Hid (g.reverse.length = g.length) := List.length_reverse
      go_loopw [4, 7, 8] (fun q out i wr => ∃ c : Nat, c ≤ g.length ∧ i = .int .i64 ((g.length : Int) - 1 - c) ∧ q = .float .f64 (gqS q1 (g.reverse.take c)) ∧ OwnF wr wo.heap.size out (goutS q1 (g.reverse.take c)) ∧ Below wo.heap.size wo wr) (fun _ _ i _ => (intOf i + 1).toNat)
      case atStart => exact ⟨0, Nat.zero_le _, by go_num, rfl, World.ownsRow_made wo #[] 0 (Nat.le_refl _) (by unfold maxLen; omega) rfl, (Below.refl _ _).alloc (Nat.le_refl _) _⟩
      case round =>
        obtain ⟨c2, hk, rfl, rfl, hown, hbo⟩ := hrel
        by_cases hlt : c2 < g.length
        · obtain ⟨gb, rfl, hgb1, hgb2, hgc⟩ := HGC.out (by omega)
          have hck : wr.cell? ⟨gb, g.length - 1 - c2, none⟩ = some (.float .f64 (g.reverse.getD c2 0)) := by
            rw [getD_rev g c2 hlt]
            exact (hbo.cell (p := ⟨gb, g.length - 1 - c2, none⟩) hgb2).trans (hgc _ (by omega))
          have hi2 : ((g.length : Int) - 1 - c2).toNat = g.length - 1 - c2 := by omega
          have hge : (0 : Int) ≤ (g.length : Int) - 1 - c2 := by omega
          have hltn : g.length - 1 - c2 < g.length := by omega
          have hRk := runS_at HRS c2 (by rw [hrl.out]; omega)
          have hgq := gqS_snoc (g.reverse.take c2) (g.reverse.getD c2 0) q1
          have hgo := goutS_snoc (g.reverse.take c2) (g.reverse.getD c2 0) q1
          rw [← take_snoc' g.reverse c2 (by rw [hrl.out]; exact hlt)] at hgq hgo
          have HS := Lib.hid (sum_walk (g.reverse.getD c2 0) (gqS q1 (g.reverse.take c2)) (hRk.2 (by rw [hrl.out]; exact hlt)) hRk.1)
          have hll := goutS_len (g.reverse.take c2) q1
          have hll2 : (g.reverse.take c2).length = c2 := by rw [List.length_take, hrl.out]; omega
          have HQ := Lib.hid hgq
          have HO := Lib.hid hgo
          have HL : Hid ((goutS q1 (g.reverse.take c2)).length ≤ c2) := by unfold Hid; omega
          have hcl : (c2 : Int) + 1 ≤ g.length := by omega
          clear hgc hRk hgq hgo hll hll2
          generalize g.reverse.getD c2 0 = x at *
          generalize gqS q1 (g.reverse.take c2) = q at *
          generalize goutS q1 (g.reverse.take c2) = o at *
          cases hne : fne (sumLo x q) 0
          · have hkp : Hid (keepF (sumLo x q) = []) := by unfold Hid keepF; rw [hne]; rfl
            go_wp2_with (go_at_call 253; refine (HS.out _).mono ?_; rintro e w1 ⟨rfl, hb1⟩)
            go_roundw
            case rel => exact ⟨c2 + 1, by omega, by go_num, by rw [HQ.out], by rw [HO.out, hkp.out, List.append_nil]; exact ownsRow_below hown hb1, hbo.trans (hb1.mono hbo.size)⟩
            case measure => simp [intOf]; omega
          · have hkp : Hid (keepF (sumLo x q) = [sumLo x q]) := by unfold Hid keepF; rw [hne]; rfl
            go_wp2_with (first
              | (go_at_call 253; refine (HS.out _).mono ?_; rintro e w1 ⟨rfl, hb1⟩; have hown1 := ownsRow_below hown hb1; clear hown)
              | (at_builtin; refine wpList_append_own _ rfl _ _ 227 rfl wo.heap.size 50 i0 (.float .f64 0) 1 8 Tryz.underlying227 hi hz0 hz1 hz2 rfl (by decide) _ _ _ rfl (hown1.alloc _) ⟨w1.heap.size, 0, none⟩ 1 1 [.float .f64 (sumLo x q)] rfl rfl ?c1 ?c2 ?c3 ?c4 ?c5 ?_))
            case c1 =>
              intro j u hj
              match j, hj with
              | 0, hj => simp at hj; subst hj; simp [Addr.add]
            case c2 => exact float_oneCell _
            case c3 => have := HL.out; unfold maxLen; omega
            case c4 => have := HL.out; omega
            case c5 => have := hbo.size; have := hb1.size; simp; omega
            intro v' w2 hown2 hgrow2 _
            have hlt1 := World.ownsRow.lt hown1
            have hbw2 : Below wo.heap.size wo w2 := ((hbo.trans (hb1.mono hbo.size)).alloc (by have := hbo.size; have := hb1.size; omega) _).grown hgrow2 (by have := hbo.size; have := hb1.size; simp; omega) (fun kk hkk => (hlt1 kk hkk).1)
            have hown3 : OwnF w2 wo.heap.size v' (o ++ [sumLo x q]) := by unfold OwnF; rw [List.length_append, List.map_append]; exact hown2
            clear hown2 hgrow2 hown1 hlt1 hb1 hck
            go_wp2
            go_roundw
            case rel => exact ⟨c2 + 1, by omega, by go_num, by rw [HQ.out], by rw [HO.out, hkp.out]; exact hown3, hbw2⟩
            case measure => simp [intOf]; omega
        · have hcl : c2 = g.length := by omega
          have htk : g.reverse.take c2 = g.reverse := List.take_of_length_le (by rw [hrl.out]; omega)
          rw [htk] at hown
          rw [htk]
          have HD : Hid (neatW l = goutS q1 g.reverse ++ keepF (gqS q1 g.reverse)) := HN
          have hneg2 : (g.length : Int) - 1 - c2 < 0 := by omega
          clear hcl htk hlt hk HRS HGC hrl HN
          generalize gqS q1 g.reverse = q at *
          generalize goutS q1 g.reverse = o at *
          cases hne : fne q 0
          · have hkp : Hid (keepF q = []) := by unfold Hid keepF; rw [hne]; rfl
            go_wp2
            go_ret
            exact ⟨_, rfl, by rw [HD.out, hkp.out, List.append_nil]; exact ownsRow_base hown hbws, hbw.trans (hbo.mono hbws)⟩
          · have hkp : Hid (keepF q = [q]) := by unfold Hid keepF; rw [hne]; rfl
            go_wp2_with (at_builtin; refine wpList_append_own _ rfl _ _ 227 rfl wo.heap.size 50 i0 (.float .f64 0) 1 8 Tryz.underlying227 hi hz0 hz1 hz2 rfl (by decide) _ _ _ rfl (hown.alloc _) ⟨wr.heap.size, 0, none⟩ 1 1 [.float .f64 q] rfl rfl ?c1 ?c2 ?c3 ?c4 ?c5 ?_)
            case c1 =>
              intro j u hj
              match j, hj with
              | 0, hj => simp at hj; subst hj; simp [Addr.add]
            case c2 => exact float_oneCell _
            case c3 => have := HGL.out; unfold maxLen; omega
            case c4 => have := HGL.out; omega
            case c5 => have := hbo.size; simp; omega
            intro v' w2 hown2 hgrow2 _
            have hlt1 := World.ownsRow.lt hown
            have hbw2 : Below wo.heap.size wo w2 := (hbo.alloc hbo.size _).grown hgrow2 (by have := hbo.size; simp; omega) (fun kk hkk => (hlt1 kk hkk).1)
            have hown3 : OwnF w2 wo.heap.size v' (o ++ [q]) := by unfold OwnF; rw [List.length_append, List.map_append]; exact hown2
            clear hown2 hgrow2 hlt1
            go_wp2
            go_ret
            exact ⟨_, rfl, by rw [HD.out, hkp.out]; exact ownsRow_base hown3 hbws, hbw.trans (hbw2.mono hbws)⟩

theorem neat_walk (l : List Nat) (v : Value) (hr : runN l) (hlen : l.length ≤ 1024) (w : World) (hv : FSl w v l) :
    Calls Tryz.prog 303 #[v] w fun e w' => ∃ v', e = .returned v' ∧ OwnF w' w.heap.size v' (neatW l) ∧ Below w.heap.size w w' := by
  obtain ⟨ad, cap, rfl, hcell⟩ := hv.form
  by_cases h0 : 0 < l.length
  · exact neat_some l ad cap hr hlen h0 w (hcell h0)
  · have : l = [] := List.length_eq_zero_iff.1 (by omega)
    subst this
    exact neat_nil ad cap w

end Go.Proofs.YtdoaniccefdkaaaGreatDoor

/- expand.apart where an expansion may be as it is; that a neat one may; the merge's closure. -/
namespace Go.Proofs.YtdoaniccefdkaaaGreatDoor
open Go.RowKit Tvf

def INF : Nat := 9218868437227405312

set_option maxRecDepth 100000 in
set_option maxHeartbeats 400000 in
theorem inf_walk (w : World) :
    Calls Tryz.prog 330 #[.int .i64 1] w fun e w' => e = .returned (.float .f64 9218868437227405312) ∧ w = w' := by
  go_enter Tryz.func330, Tryz.ntmps330
  go_wp2
  go_ret
  exact ⟨rfl, rfl⟩

theorem fin_tiny : fin 1 := by unfold fin; omega
theorem fval_tiny : fval 1 = 1 := by decide

set_option maxRecDepth 100000 in
set_option maxHeartbeats 400000 in
theorem apart_walk (l : List Nat) (v : Value) (hl : ∀ x, x ∈ l → fin x) (ha : allB l 1 INF = true) (w : World) (hv : FSl w v l) :
    Calls Tryz.prog 302 #[v] w fun e w' => e = .returned v ∧ w = w' := by
  have HA := Lib.hid (all_walk l v 1 INF fin_tiny (by rw [fval_tiny]; decide) hl w hv)
  rw [ha] at HA
  unfold INF at HA
  clear ha hl
  go_enter Tryz.func302, Tryz.ntmps302
  go_wp2_with (first | (go_at_call 330; refine (inf_walk _).mono ?_; rintro e w' ⟨rfl, rfl⟩) | (go_at_call 282; refine (HA.out).mono ?_; rintro e w' ⟨rfl, rfl⟩))
  go_ret
  exact ⟨rfl, rfl⟩

theorem fle_inf {x : Nat} (hx : fin x) : fle x INF = true := by
  obtain ⟨m, i, e1, v1, _⟩ := read_fin hx
  unfold fle Ieee.Format.order
  have e2 : D.read INF = .infinity false := by decide
  rw [e1, e2]
  rfl

/-- what lies one upon the other may be -/
theorem good_of_nov (l : List Nat) (hl : ∀ x, x ∈ l → fin x) (p : Nat) (hn : nov p (l.map fval)) (a b : Nat) (hw : ∀ x, x ∈ l → withinB x a b = true) : ∀ j, j < l.length → goodAt l a b j = true := by
  have gen : ∀ (l : List Nat) (p : Nat), (∀ x, x ∈ l → fin x) → nov p (l.map fval) → ∀ j, j + 1 < l.length → fge (l.getD j 0 % 2 ^ 63) (lowF (l.getD (j + 1) 0)) = false := by
    intro l
    induction l with
    | nil => intro p _ _ j hj; simp at hj
    | cons x r ih =>
      intro p hl hn j hj
      cases j with
      | succ j => exact ih _ (fun y hy => hl y (List.mem_cons_of_mem _ hy)) hn.2.2 j (by simp at hj; omega)
      | zero =>
        cases r with
        | nil => simp at hj
        | cons y r =>
          have hx := hl x (List.mem_cons_self ..)
          have hy := hl y (List.mem_cons_of_mem _ (List.mem_cons_self ..))
          obtain ⟨y0, ⟨k, hk1, hk2⟩, _⟩ := hn.2.2
          have hlow := lowF_spec hy y0
          show fge (x % 2 ^ 63) (lowF y) = false
          rw [fge_val (fin_abs hx) hlow.2.1, fval_abs]
          obtain ⟨v, q, h1, h2, h3⟩ := hlow.2.2
          rw [h1]
          -- the lowest digit is no lower than the power of two
          have hkv : k ≤ v := by
            apply Classical.byContradiction
            intro hc
            rw [h2] at hk2
            obtain ⟨c, hc2⟩ := hk2
            have e1 : (2 : Int) ^ k = 2 ^ v * 2 ^ (k - v) := by rw [← Int.pow_add, show v + (k - v) = k by omega]
            rw [e1, Int.mul_comm q, Int.mul_assoc] at hc2
            have := Int.eq_of_mul_eq_mul_left (Int.ne_of_gt (Int.pow_pos (by omega) : (0 : Int) < 2 ^ v)) hc2
            rw [show k - v = k - v - 1 + 1 by omega, Int.pow_succ, Int.mul_assoc] at this
            generalize (2 : Int) ^ (k - v - 1) = P at *
            have h4 : q = 2 * (P * c) := by rw [this]; grind
            omega
          have hp : 2 ^ k ≤ 2 ^ v := Nat.pow_le_pow_right (by omega) hkv
          have cast : ((2 ^ v : Nat) : Int) = (2 : Int) ^ v := by simp
          rw [← cast]
          simp only [decide_eq_false_iff_not]
          show ¬ ((2 ^ v : Nat) : Int) ≤ ((fval x).natAbs : Int)
          have hk1' : (fval x).natAbs < 2 ^ k := hk1
          omega
  intro j hj
  unfold goodAt
  rw [hw _ (getD_mem hj), Bool.true_and]
  cases j with
  | zero => rfl
  | succ j =>
    rw [show j + 1 - 1 = j by omega, gen l p hl hn j hj]; simp

theorem within_tiny {x : Nat} (hx : fin x) (h0 : fval x ≠ 0) : withinB x 1 INF = true := by
  unfold withinB
  rw [fle_inf (fin_abs hx), fge_val (fin_abs hx) fin_tiny, fval_abs, fval_tiny]
  simp; omega

/-- ALL OF A NEAT EXPANSION, on words -/
structure NeatFacts (o l : List Nat) : Prop where
  fins : ∀ x, x ∈ l → fin x
  nz : ∀ x, x ∈ l → fval x ≠ 0
  sum : isum (l.map fval) = isum (o.map fval)
  novs : nov 0 (l.map fval)
  abs : absSum (l.map fval) ≤ 8 * (isum (o.map fval)).natAbs
  all : allB l 1 INF = true
  dvd : ∀ k : Nat, (∀ x, x ∈ o → (2 : Int) ^ k ∣ fval x) → ∀ x, x ∈ l → (2 : Int) ^ k ∣ fval x

theorem neat_facts {o : List Nat} (hr : runN o) (hn : nov 0 (o.map fval)) (hlen : o.length ≤ 1000) (hb : absSum (o.map fval) ≤ 2 ^ (unitE + 998)) : NeatFacts o (neatW o) := by
  obtain ⟨h1, h2⟩ := neatW_vals hr
  obtain ⟨n1, n2, n3, n4, n5, n6, n7⟩ := neat_all hn (fun y hy => by
    obtain ⟨x, _, rfl⟩ := List.mem_map.1 hy; exact rep_fval x) (by rw [List.length_map]; omega)
  rw [← h1] at n1 n2 n3 n5 n6 n7
  have hnz : ∀ x, x ∈ neatW o → fval x ≠ 0 := fun x hx => n3 _ (List.mem_map_of_mem hx)
  refine ⟨h2, hnz, n1, n2, n5, ?_, ?_⟩
  · refine all_true ?_ (good_of_nov _ h2 0 n2 1 INF (fun x hx => within_tiny (h2 x hx) (hnz x hx)))
    have := n6 (unitE + 998) (by
      refine Nat.lt_of_le_of_lt (Nat.le_trans (isum_le _) hb) ?_
      exact Nat.pow_lt_pow_right (by omega) (by omega))
    rw [List.length_map] at this
    have hu := unitE_eq
    omega
  · intro k hk x hx
    refine n7 k ?_ _ (List.mem_map_of_mem hx)
    intro y hy
    obtain ⟨z, hz, rfl⟩ := List.mem_map.1 hy
    exact hk z hz

end Go.Proofs.YtdoaniccefdkaaaGreatDoor

/- The walk of expand.plus's closure, which hands out the floats of two expansions by rising magnitudes. -/
namespace Go.Proofs.YtdoaniccefdkaaaGreatDoor
open Go.RowKit Tvf

/-- of which of the two the next one is taken: true: of the first -/
def pickB (e f : List Nat) (i k : Nat) : Bool := decide (k = f.length) || (decide (i < e.length) && flt (e.getD i 0 % 2 ^ 63) (f.getD k 0 % 2 ^ 63))

/-- the boxes of a merge -/
structure Boxes (w : World) (b : Nat) (ve vf : Value) (i k : Nat) : Prop where
  hE : w.cell? ⟨b, 0, none⟩ = some ve
  hF : w.cell? ⟨b + 1, 0, none⟩ = some vf
  hI : w.cell? ⟨b + 1 + 1, 0, none⟩ = some (.int .i64 i)
  hK : w.cell? ⟨b + 1 + 1 + 1, 0, none⟩ = some (.int .i64 k)
  fI : w.frozen? ⟨b + 1 + 1, 0, none⟩ = false
  fK : w.frozen? ⟨b + 1 + 1 + 1, 0, none⟩ = false

/-- a contract that leaves the world as it is, met among draws -/
theorem qleft {P : Program} {g : FuncId} {args : Array Value} {w : World} {n : Nat} {v : Value}
    (h : Calls P g args (w.drewN n) fun r w' => r = .returned v ∧ w.drewN n = w') : Calls P g args (w.drewN n) fun r w'' => r = .returned v ∧ ∃ m, w'' = w.drewN m :=
  h.mono fun _ _ ⟨he, hm⟩ => ⟨he, n, hm.symm⟩

/-- a slice's floats, where there are any -/
def CellsF (w : World) (ad : Option Addr) (l : List Nat) (b : Nat) : Prop :=
  0 < l.length → ∃ bb off : Nat, ad = some ⟨bb, off, none⟩ ∧ bb < b ∧ ∀ i, i < l.length → w.cell? ⟨bb, off + i, none⟩ = some (.float .f64 (l.getD i 0))

set_option maxRecDepth 100000 in
set_option maxHeartbeats 1600000 in
theorem next_e (e f : List Nat) (b : Nat) (ead fad : Option Addr) (ec fc : Nat) (i k : Nat) (hle : e.length ≤ 4294967296) (hlf : f.length ≤ 4294967296) (h64e : ∀ x, x ∈ e → x < 2 ^ 64) (h64f : ∀ x, x ∈ f → x < 2 ^ 64) (hk : k ≤ f.length) (hi : i < e.length) (hp : pickB e f i k = true) (w : World)
    (hB : Boxes w b (.slice ead e.length ec) (.slice fad f.length fc) i k) (hce : CellsF w ead e b) (hcf : CellsF w fad f b) :
    Calls Tryz.prog 304 #[.pointer (some ⟨b + 1 + 1 + 1, 0, none⟩), .pointer (some ⟨b + 1, 0, none⟩), .pointer (some ⟨b + 1 + 1, 0, none⟩), .pointer (some ⟨b, 0, none⟩)] w fun r w' =>
      ∃ n, r = .returned (.float .f64 (e.getD i 0)) ∧ w' = (w.drewN n).setCell ⟨b + 1 + 1, 0, none⟩ (.int .i64 (i + 1)) := by
  obtain ⟨hE, hF, hI, hK, fI, fK⟩ := hB
  obtain ⟨eb, eo, rfl, heb, hec⟩ := hce (by omega)
  have hx := hec i hi
  have HX := Lib.hid (h64e _ (getD_mem hi))
  have hi1 : ((i : Int) + 1 - 1).toNat = i := by omega
  unfold pickB at hp
  by_cases hkf : k = f.length
  · subst hkf
    clear hec hce hcf h64e h64f hp
    generalize e.getD i 0 = x at *
    go_enter Tryz.func304, Tryz.ntmps304
    go_wp2
    go_quiet (fail)
    go_wp2
    go_ret
    exact ⟨_, rfl, rfl⟩
  · have hlt : k < f.length := by omega
    obtain ⟨fb, fo, rfl, hfb, hfc⟩ := hcf (by omega)
    have hy := hfc k hlt
    have HY := Lib.hid (h64f _ (getD_mem hlt))
    have hkd : ((k : Int) == (f.length : Int)) = false := by rw [beq_eq_false_iff_ne]; omega
    have hid : decide ((i : Int) < (e.length : Int)) = true := by simp; omega
    have hfl : flt (e.getD i 0 % 2 ^ 63) (f.getD k 0 % 2 ^ 63) = true := by
      rw [show decide (k = f.length) = false by simpa using hkf, Bool.false_or, Bool.and_eq_true] at hp
      exact hp.2
    clear hec hfc hce hcf h64e h64f hp hkf
    generalize e.getD i 0 = x at *
    generalize f.getD k 0 = y at *
    go_enter Tryz.func304, Tryz.ntmps304
    go_wp2
    go_quiet ((go_at_call 184; (first | exact qleft (abs_any x HX.out _) | exact qleft (abs_any y HY.out _))))
    go_wp2
    go_ret
    exact ⟨_, rfl, rfl⟩

set_option maxRecDepth 100000 in
set_option maxHeartbeats 1600000 in
theorem next_f (e f : List Nat) (b : Nat) (ead fad : Option Addr) (ec fc : Nat) (i k : Nat) (hle : e.length ≤ 4294967296) (hlf : f.length ≤ 4294967296) (h64e : ∀ x, x ∈ e → x < 2 ^ 64) (h64f : ∀ x, x ∈ f → x < 2 ^ 64) (hk : k ≤ f.length) (hi : i ≤ e.length) (hp : pickB e f i k = false) (w : World)
    (hB : Boxes w b (.slice ead e.length ec) (.slice fad f.length fc) i k) (hce : CellsF w ead e b) (hcf : CellsF w fad f b) :
    Calls Tryz.prog 304 #[.pointer (some ⟨b + 1 + 1 + 1, 0, none⟩), .pointer (some ⟨b + 1, 0, none⟩), .pointer (some ⟨b + 1 + 1, 0, none⟩), .pointer (some ⟨b, 0, none⟩)] w fun r w' =>
      ∃ n, r = .returned (.float .f64 (f.getD k 0)) ∧ w' = (w.drewN n).setCell ⟨b + 1 + 1 + 1, 0, none⟩ (.int .i64 (k + 1)) := by
  obtain ⟨hE, hF, hI, hK, fI, fK⟩ := hB
  unfold pickB at hp
  rw [Bool.or_eq_false_iff] at hp
  obtain ⟨hp1, hp2⟩ := hp
  have hlt : k < f.length := by have := of_decide_eq_false hp1; omega
  obtain ⟨fb, fo, rfl, hfb, hfc⟩ := hcf (by omega)
  have hy := hfc k hlt
  have HY := Lib.hid (h64f _ (getD_mem hlt))
  have hkd : ((k : Int) == (f.length : Int)) = false := by rw [beq_eq_false_iff_ne]; omega
  have hk1 : ((k : Int) + 1 - 1).toNat = k := by omega
  clear hp1 hcf
  by_cases hil : i < e.length
  · obtain ⟨eb, eo, rfl, heb, hec⟩ := hce (by omega)
    have hx := hec i hil
    have HX := Lib.hid (h64e _ (getD_mem hil))
    have hid : decide ((i : Int) < (e.length : Int)) = true := by simp; omega
    have hfl : flt (e.getD i 0 % 2 ^ 63) (f.getD k 0 % 2 ^ 63) = false := by
      rw [show decide (i < e.length) = true by simpa using hil, Bool.true_and] at hp2
      exact hp2
    clear hec hfc hce h64e h64f hp2
    generalize e.getD i 0 = x at *
    generalize f.getD k 0 = y at *
    go_enter Tryz.func304, Tryz.ntmps304
    go_wp2
    go_quiet ((go_at_call 184; (first | exact qleft (abs_any x HX.out _) | exact qleft (abs_any y HY.out _))))
    go_wp2
    go_ret
    exact ⟨_, rfl, rfl⟩
  · have hid : decide ((i : Int) < (e.length : Int)) = false := by simp; omega
    clear hfc hce h64e h64f hp2
    generalize f.getD k 0 = y at *
    go_enter Tryz.func304, Tryz.ntmps304
    go_wp2
    go_quiet (fail)
    go_wp2
    go_ret
    exact ⟨_, rfl, rfl⟩

end Go.Proofs.YtdoaniccefdkaaaGreatDoor
