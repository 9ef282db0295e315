/- Part of the proof. No conditions. -/
import Derived.Test.YtdoaniccefdkaaaGreatDoorZ8
import Derived.Test.YtdoaniccefdkaaaGreatDoorZ9

set_option linter.all false
/- Plain lists: a sorted list is told by its members; the pairs below n in their order; a mesh's triangles, edges, border edges as lists. -/
namespace Go.Proofs.YtdoaniccefdkaaaGreatDoor

theorem pw_unique {α : Type} {lt : α → α → Prop} (irr : ∀ x, ¬lt x x) (tr : ∀ x y z, lt x y → lt y z → lt x z) :
    ∀ (l1 l2 : List α), l1.Pairwise lt → l2.Pairwise lt → (∀ x, x ∈ l1 ↔ x ∈ l2) → l1 = l2
  | [], [], _, _, _ => rfl
  | [], y :: r, _, _, h => absurd ((h y).2 (List.mem_cons_self ..)) (by simp)
  | x :: r, [], _, _, h => absurd ((h x).1 (List.mem_cons_self ..)) (by simp)
  | x :: r, y :: s, h1, h2, h => by
    have hx := List.pairwise_cons.1 h1
    have hy := List.pairwise_cons.1 h2
    have e : x = y := by
      rcases List.mem_cons.1 ((h x).1 (List.mem_cons_self ..)) with e | e
      · exact e
      · rcases List.mem_cons.1 ((h y).2 (List.mem_cons_self ..)) with e' | e'
        · exact e'.symm
        · exact absurd (tr _ _ _ (hx.1 y e') (hy.1 x e)) (irr x)
    subst e
    have hr : r = s := by
      refine pw_unique irr tr r s hx.2 hy.2 fun z => ⟨fun hz => ?_, fun hz => ?_⟩
      · rcases List.mem_cons.1 ((h z).1 (List.mem_cons_of_mem _ hz)) with e | e
        · exact absurd (hx.1 z hz) (e ▸ irr z)
        · exact e
      · rcases List.mem_cons.1 ((h z).2 (List.mem_cons_of_mem _ hz)) with e | e
        · exact absurd (hy.1 z hz) (e ▸ irr z)
        · exact e
    rw [hr]

/-- told apart, and none ahead of an earlier one: each behind the earlier ones -/
theorem pw_strict {α : Type} {lt : α → α → Prop} (tot : ∀ x y, ¬lt x y → ¬lt y x → x = y) : ∀ (l : List α), l.Nodup → l.Pairwise (fun x y => ¬lt y x) → l.Pairwise lt
  | [], _, _ => List.Pairwise.nil
  | x :: r, hn, hp => by
    have h1 := List.pairwise_cons.1 hn
    have h2 := List.pairwise_cons.1 hp
    refine List.pairwise_cons.2 ⟨fun y hy => ?_, pw_strict tot r h1.2 h2.2⟩
    apply Classical.byContradiction; intro hh
    exact h1.1 y hy (tot x y hh (h2.1 y hy))

/-! ### pairs -/
def ltP (x y : Int × Int) : Prop := x.1 < y.1 ∨ (x.1 = y.1 ∧ x.2 < y.2)
theorem ltP_irr (x : Int × Int) : ¬ltP x x := by unfold ltP; omega
theorem ltP_trans (x y z : Int × Int) (h1 : ltP x y) (h2 : ltP y z) : ltP x z := by unfold ltP at *; omega
theorem ltP_tot (x y : Int × Int) (h1 : ¬ltP x y) (h2 : ¬ltP y x) : x = y := by
  unfold ltP at *
  obtain ⟨a, b⟩ := x; obtain ⟨c, d⟩ := y
  simp only [Prod.mk.injEq]
  dsimp only at *
  omega

def idxL (n : Nat) : List (Int × Int) := (List.range n).flatMap fun (a : Nat) => (List.range n).map fun (b : Nat) => ((a : Int), (b : Int))
theorem mem_idxL {n : Nat} {x : Int × Int} : x ∈ idxL n ↔ (0 ≤ x.1 ∧ x.1 < n) ∧ (0 ≤ x.2 ∧ x.2 < n) := by
  unfold idxL
  simp only [List.mem_flatMap, List.mem_map, List.mem_range]
  constructor
  · rintro ⟨a, ha, b, hb, rfl⟩
    dsimp only; omega
  · rintro ⟨⟨h1, h2⟩, h3, h4⟩
    refine ⟨x.1.toNat, by omega, x.2.toNat, by omega, ?_⟩
    obtain ⟨a, b⟩ := x
    simp only [Prod.mk.injEq]
    dsimp only at *
    omega
theorem idxL_sorted (n : Nat) : (idxL n).Pairwise ltP := by
  unfold idxL
  rw [List.pairwise_flatMap]
  constructor
  · intro a _
    rw [List.pairwise_map]
    refine List.Pairwise.imp ?_ (List.pairwise_lt_range (n := n))
    intro x y h
    unfold ltP; dsimp only; omega
  · refine List.Pairwise.imp ?_ (List.pairwise_lt_range (n := n))
    intro x y h u hu v hv
    obtain ⟨b, _, rfl⟩ := List.mem_map.1 hu
    obtain ⟨d, _, rfl⟩ := List.mem_map.1 hv
    unfold ltP; dsimp only; omega
theorem ltP_nodup {l : List (Int × Int)} (h : l.Pairwise ltP) : l.Nodup := by
  refine List.Pairwise.imp ?_ h
  rintro a b hlt rfl
  exact ltP_irr _ hlt

/-! ### triangles in their order -/
abbrev Tri3 := Int × Int × Int
def ltT (x y : Tri3) : Prop := x.1 < y.1 ∨ (x.1 = y.1 ∧ (x.2.1 < y.2.1 ∨ (x.2.1 = y.2.1 ∧ x.2.2 < y.2.2)))
theorem ltT_irr (x : Tri3) : ¬ltT x x := by unfold ltT; omega
theorem ltT_trans (x y z : Tri3) (h1 : ltT x y) (h2 : ltT y z) : ltT x z := by unfold ltT at *; omega
theorem ltT_tot (x y : Tri3) (h1 : ¬ltT x y) (h2 : ¬ltT y x) : x = y := by
  unfold ltT at *
  obtain ⟨a, b, c⟩ := x; obtain ⟨d, e, f⟩ := y
  simp only [Prod.mk.injEq]
  dsimp only at *
  omega

/-- does an edge lead a triangle in its own form? -/
def leadB (ap : Int → Int → Option Int) (x : Int × Int) : Bool :=
  match ap x.1 x.2 with
  | some c => decide (x.1 < x.2) && decide (x.1 < c)
  | none => false
def triOf (ap : Int → Int → Option Int) (x : Int × Int) : Tri3 := (x.1, x.2, (ap x.1 x.2).getD 0)
def trisL (ap : Int → Int → Option Int) (n : Nat) : List Tri3 := ((idxL n).filter (leadB ap)).map (triOf ap)
def inB (ap : Int → Int → Option Int) (x : Int × Int) : Bool := (ap x.1 x.2).isSome
def dirL (ap : Int → Int → Option Int) (n : Nat) : List (Int × Int) := (idxL n).filter (inB ap)
def bordB (ap : Int → Int → Option Int) (x : Int × Int) : Bool := inB ap x && !inB ap (x.2, x.1)
def bordL (ap : Int → Int → Option Int) (n : Nat) : List (Int × Int) := (idxL n).filter (bordB ap)
def edgeB (ap : Int → Int → Option Int) (x : Int × Int) : Bool := decide (x.1 < x.2) && (inB ap x || inB ap (x.2, x.1))
def edgeL (ap : Int → Int → Option Int) (n : Nat) : List (Int × Int) := (idxL n).filter (edgeB ap)

theorem bordL_sorted (ap : Int → Int → Option Int) (n : Nat) : (bordL ap n).Pairwise ltP := (idxL_sorted n).filter _
theorem edgeL_sorted (ap : Int → Int → Option Int) (n : Nat) : (edgeL ap n).Pairwise ltP := (idxL_sorted n).filter _
theorem dirL_sorted (ap : Int → Int → Option Int) (n : Nat) : (dirL ap n).Pairwise ltP := (idxL_sorted n).filter _
theorem trisL_sorted (ap : Int → Int → Option Int) (n : Nat) : (trisL ap n).Pairwise ltT := by
  unfold trisL
  rw [List.pairwise_map]
  refine List.Pairwise.imp ?_ ((idxL_sorted n).filter (leadB ap))
  intro x y h
  unfold ltP at h; unfold ltT triOf; dsimp only; omega

/-- Every edge that there is lies below n. -/
def Within (ap : Int → Int → Option Int) (n : Nat) : Prop := ∀ a b, ap a b ≠ none → (0 ≤ a ∧ a < n) ∧ (0 ≤ b ∧ b < n)

theorem mem_bordL {ap : Int → Int → Option Int} {n : Nat} (h : Within ap n) (x : Int × Int) : x ∈ bordL ap n ↔ bordB ap x = true := by
  unfold bordL
  rw [List.mem_filter, mem_idxL]
  refine ⟨fun e => e.2, fun e => ⟨h x.1 x.2 ?_, e⟩⟩
  intro en
  unfold bordB inB at e
  rw [en] at e; simp at e
theorem mem_dirL {ap : Int → Int → Option Int} {n : Nat} (h : Within ap n) (x : Int × Int) : x ∈ dirL ap n ↔ inB ap x = true := by
  unfold dirL
  rw [List.mem_filter, mem_idxL]
  refine ⟨fun e => e.2, fun e => ⟨h x.1 x.2 ?_, e⟩⟩
  intro en
  unfold inB at e
  rw [en] at e; simp at e
theorem mem_edgeL {ap : Int → Int → Option Int} {n : Nat} (h : Within ap n) (x : Int × Int) : x ∈ edgeL ap n ↔ edgeB ap x = true := by
  unfold edgeL
  rw [List.mem_filter, mem_idxL]
  refine ⟨fun e => e.2, fun e => ⟨?_, e⟩⟩
  unfold edgeB inB at e
  simp only [Bool.and_eq_true, Bool.or_eq_true, decide_eq_true_eq] at e
  rcases e.2 with e1 | e1
  · exact h x.1 x.2 (fun en => by rw [en] at e1; simp at e1)
  · have := h x.2 x.1 (fun en => by rw [en] at e1; simp at e1)
    exact ⟨this.2, this.1⟩
theorem mem_trisL {ap : Int → Int → Option Int} {n : Nat} (h : Within ap n) (x : Tri3) : x ∈ trisL ap n ↔ ap x.1 x.2.1 = some x.2.2 ∧ x.1 < x.2.1 ∧ x.1 < x.2.2 := by
  unfold trisL
  simp only [List.mem_map, List.mem_filter, mem_idxL]
  constructor
  · rintro ⟨y, ⟨_, hy⟩, rfl⟩
    unfold leadB at hy
    unfold triOf
    dsimp only
    cases e : ap y.1 y.2 with
    | none => rw [e] at hy; simp at hy
    | some c => rw [e] at hy; simp at hy; exact ⟨rfl, hy.1, hy.2⟩
  · rintro ⟨h1, h2, h3⟩
    refine ⟨(x.1, x.2.1), ⟨h _ _ (by rw [h1]; simp), ?_⟩, ?_⟩
    · unfold leadB; dsimp only; rw [h1]; simp; exact ⟨h2, h3⟩
    · unfold triOf; dsimp only; rw [h1]; rfl

end Go.Proofs.YtdoaniccefdkaaaGreatDoor

/- Plain lists: how many triangles, edges, border edges there are. -/
namespace Go.Proofs.YtdoaniccefdkaaaGreatDoor

/-- edges run about triangles -/
structure Rot (ap : Int → Int → Option Int) : Prop where
  rot : ∀ a b c, ap a b = some c → ap b c = some a
  ne : ∀ a b c, ap a b = some c → a ≠ b ∧ b ≠ c ∧ a ≠ c

def nxt (ap : Int → Int → Option Int) (x : Int × Int) : Int × Int := (x.2, (ap x.1 x.2).getD 0)
def sw (x : Int × Int) : Int × Int := (x.2, x.1)

theorem in_some {ap : Int → Int → Option Int} {x : Int × Int} (h : inB ap x = true) : ∃ c, ap x.1 x.2 = some c := by
  unfold inB at h
  exact Option.isSome_iff_exists.1 h

theorem nxt_perm {ap : Int → Int → Option Int} {n : Nat} (hw : Within ap n) (hr : Rot ap) : ((dirL ap n).map (nxt ap)).Perm (dirL ap n) := by
  refine (List.perm_ext_iff_of_nodup ?_ (ltP_nodup (dirL_sorted ap n))).2 fun x => ?_
  · unfold List.Nodup
    rw [List.pairwise_map]
    refine List.Pairwise.imp_of_mem ?_ (ltP_nodup (dirL_sorted ap n))
    intro x y hx hy hne e
    rw [mem_dirL hw] at hx hy
    obtain ⟨c, hc⟩ := in_some hx
    obtain ⟨d, hd⟩ := in_some hy
    unfold nxt at e
    rw [hc, hd] at e
    simp only [Option.getD_some, Prod.mk.injEq] at e
    have h1 := hr.rot _ _ _ hc
    have h2 := hr.rot _ _ _ hd
    rw [e.1, e.2, h2] at h1
    apply hne
    obtain ⟨a, b⟩ := x; obtain ⟨a', b'⟩ := y
    simp only [Prod.mk.injEq]
    simp only [Option.some.injEq] at h1
    exact ⟨h1.symm, e.1⟩
  · rw [mem_dirL hw, List.mem_map]
    constructor
    · rintro ⟨y, hy, rfl⟩
      rw [mem_dirL hw] at hy
      obtain ⟨c, hc⟩ := in_some hy
      unfold nxt inB
      rw [hc]
      simp only [Option.getD_some]
      rw [hr.rot _ _ _ hc]; rfl
    · intro hx
      obtain ⟨c, hc⟩ := in_some hx
      have h1 := hr.rot _ _ _ hc
      have h2 := hr.rot _ _ _ h1
      refine ⟨(c, x.1), ?_, ?_⟩
      · rw [mem_dirL hw]; unfold inB; dsimp only; rw [h2]; rfl
      · unfold nxt; dsimp only; rw [h2]; rfl

theorem countP_nxt {ap : Int → Int → Option Int} {n : Nat} (hw : Within ap n) (hr : Rot ap) (q : Int × Int → Bool) : (dirL ap n).countP (fun x => q (nxt ap x)) = (dirL ap n).countP q := by
  have := (nxt_perm hw hr).countP_eq q
  rw [List.countP_map] at this
  exact this

theorem countP_three {α : Type} {p q r : α → Bool} : ∀ (l : List α), (∀ x, x ∈ l → (p x).toNat + (q x).toNat + (r x).toNat = 1) → l.countP p + l.countP q + l.countP r = l.length
  | [], _ => rfl
  | x :: l, h => by
    have ih := countP_three l fun y hy => h y (List.mem_cons_of_mem _ hy)
    have hx := h x (List.mem_cons_self ..)
    simp only [List.countP_cons, List.length_cons]
    cases hp : p x <;> cases hq : q x <;> cases hr : r x <;> rw [hp, hq, hr] at hx <;> simp at hx ⊢ <;> omega

theorem countP_bal {α : Type} {p q r : α → Bool} : ∀ (l : List α), (∀ x, x ∈ l → (p x).toNat + (q x).toNat = (r x).toNat) → l.countP p + l.countP q = l.countP r
  | [], _ => rfl
  | x :: l, h => by
    have ih := countP_bal l fun y hy => h y (List.mem_cons_of_mem _ hy)
    have hx := h x (List.mem_cons_self ..)
    simp only [List.countP_cons]
    cases hp : p x <;> cases hq : q x <;> cases hr : r x <;> rw [hp, hq, hr] at hx <;> simp at hx ⊢ <;> omega

theorem countP_same {α : Type} {p q : α → Bool} : ∀ (l : List α), (∀ x, x ∈ l → p x = q x) → l.countP p = l.countP q
  | [], _ => rfl
  | x :: l, h => by
    have ih := countP_same l fun y hy => h y (List.mem_cons_of_mem _ hy)
    have hx := h x (List.mem_cons_self ..)
    simp only [List.countP_cons, ih, hx]

theorem dir_count (ap : Int → Int → Option Int) (n : Nat) : (dirL ap n).length = (idxL n).countP (inB ap) := by unfold dirL; rw [List.countP_eq_length_filter]
theorem bord_count (ap : Int → Int → Option Int) (n : Nat) : (bordL ap n).length = (idxL n).countP (bordB ap) := by unfold bordL; rw [List.countP_eq_length_filter]
theorem edge_count (ap : Int → Int → Option Int) (n : Nat) : (edgeL ap n).length = (idxL n).countP (edgeB ap) := by unfold edgeL; rw [List.countP_eq_length_filter]
theorem countP_dir (ap : Int → Int → Option Int) (n : Nat) (q : Int × Int → Bool) : (dirL ap n).countP q = (idxL n).countP (fun x => q x && inB ap x) := by
  unfold dirL; rw [List.countP_filter]

theorem lead_in {ap : Int → Int → Option Int} {x : Int × Int} (h : leadB ap x = true) : inB ap x = true := by
  unfold leadB at h; unfold inB
  split at h
  · rename_i e; rw [e]; rfl
  · cases h

theorem tris_count (ap : Int → Int → Option Int) (n : Nat) : (trisL ap n).length = (dirL ap n).countP (leadB ap) := by
  unfold trisL
  rw [List.length_map, ← List.countP_eq_length_filter, countP_dir]
  refine countP_same _ fun x _ => ?_
  cases h : leadB ap x
  · rfl
  · rw [lead_in h]; rfl

/-- three directed edges a triangle -/
theorem three_tris {ap : Int → Int → Option Int} {n : Nat} (hw : Within ap n) (hr : Rot ap) : 3 * (trisL ap n).length = (dirL ap n).length := by
  have h3 := countP_three (p := leadB ap) (q := fun x => leadB ap (nxt ap x)) (r := fun x => leadB ap (nxt ap (nxt ap x))) (dirL ap n) fun x hx => by
    rw [mem_dirL hw] at hx
    obtain ⟨c, hc⟩ := in_some hx
    have h1 := hr.rot _ _ _ hc
    have h2 := hr.rot _ _ _ h1
    have hn := hr.ne _ _ _ hc
    obtain ⟨a, b⟩ := x
    dsimp only at hc h1 h2 hn
    have e1 : nxt ap (a, b) = (b, c) := by unfold nxt; dsimp only; rw [hc]; rfl
    have e2 : nxt ap (b, c) = (c, a) := by unfold nxt; dsimp only; rw [h1]; rfl
    rw [e1, e2]
    unfold leadB
    dsimp only
    rw [hc, h1, h2]
    dsimp only
    by_cases q1 : a < b <;> by_cases q2 : a < c <;> by_cases q3 : b < c <;> by_cases q4 : b < a <;> by_cases q5 : c < a <;> by_cases q6 : c < b <;> first | (exfalso; omega) | simp [q1, q2, q3, q4, q5, q6]
  have k1 := countP_nxt hw hr (leadB ap)
  have k2 := countP_nxt hw hr (fun x => leadB ap (nxt ap x))
  rw [tris_count]
  omega

theorem sw_perm (n : Nat) : ((idxL n).map sw).Perm (idxL n) := by
  refine (List.perm_ext_iff_of_nodup ?_ (ltP_nodup (idxL_sorted n))).2 fun x => ?_
  · unfold List.Nodup
    rw [List.pairwise_map]
    refine List.Pairwise.imp ?_ (ltP_nodup (idxL_sorted n))
    intro x y hne e
    apply hne
    unfold sw at e
    obtain ⟨a, b⟩ := x; obtain ⟨a', b'⟩ := y
    simp only [Prod.mk.injEq] at *
    exact ⟨e.2, e.1⟩
  · rw [List.mem_map]
    constructor
    · rintro ⟨y, hy, rfl⟩
      rw [mem_idxL] at *
      exact ⟨hy.2, hy.1⟩
    · intro hx
      exact ⟨sw x, by rw [mem_idxL] at *; exact ⟨hx.2, hx.1⟩, rfl⟩

theorem countP_sw (n : Nat) (q : Int × Int → Bool) : (idxL n).countP (fun x => q (sw x)) = (idxL n).countP q := by
  have := (sw_perm n).countP_eq q
  rw [List.countP_map] at this
  exact this

/-- twice the edges are the directed edges and the border edges -/
theorem two_edges {ap : Int → Int → Option Int} (n : Nat) (hr : Rot ap) : 2 * (edgeL ap n).length = (dirL ap n).length + (bordL ap n).length := by
  have hU1 := countP_bal (p := edgeB ap) (q := fun x => edgeB ap (sw x)) (r := fun x => inB ap x || inB ap (sw x)) (idxL n) fun x _ => by
    obtain ⟨a, b⟩ := x
    unfold edgeB sw
    dsimp only
    cases h1 : inB ap (a, b)
    · cases h2 : inB ap (b, a)
      · simp
      · obtain ⟨c, hc⟩ := in_some h2
        have := (hr.ne _ _ _ hc).1
        dsimp only at this
        by_cases q1 : a < b <;> by_cases q2 : b < a <;> first | (exfalso; omega) | simp [q1, q2]
    · obtain ⟨c, hc⟩ := in_some h1
      have := (hr.ne _ _ _ hc).1
      dsimp only at this
      by_cases q1 : a < b <;> by_cases q2 : b < a <;> first | (exfalso; omega) | simp [q1, q2]
  have hU2 := countP_bal (p := inB ap) (q := fun x => bordB ap (sw x)) (r := fun x => inB ap x || inB ap (sw x)) (idxL n) fun x _ => by
    unfold bordB
    show (inB ap x).toNat + (inB ap (sw x) && !inB ap x).toNat = _
    cases inB ap x <;> cases inB ap (sw x) <;> rfl
  have k1 := countP_sw n (edgeB ap)
  have k2 := countP_sw n (bordB ap)
  rw [edge_count, dir_count, bord_count]
  omega

/-- border edges come to each point as often as they leave it -/
theorem bord_even {ap : Int → Int → Option Int} {n : Nat} (hw : Within ap n) (hr : Rot ap) (v : Int) :
    (bordL ap n).countP (fun x => decide (x.1 = v)) = (bordL ap n).countP (fun x => decide (x.2 = v)) := by
  have k0 := countP_nxt hw hr (fun x => decide (x.1 = v))
  have k0' : (dirL ap n).countP (fun x => decide (x.2 = v)) = (dirL ap n).countP (fun x => decide (x.1 = v)) := k0
  rw [countP_dir, countP_dir] at k0'
  have kb : ∀ q : Int × Int → Bool, (bordL ap n).countP q = (idxL n).countP (fun x => q x && bordB ap x) := fun q => by unfold bordL; rw [List.countP_filter]
  rw [kb, kb]
  have split : ∀ q : Int × Int → Bool, (idxL n).countP (fun x => q x && bordB ap x) + (idxL n).countP (fun x => q x && (inB ap x && inB ap (sw x))) = (idxL n).countP (fun x => q x && inB ap x) := fun q =>
    countP_bal _ fun x _ => by
      unfold bordB
      show (q x && (inB ap x && !inB ap (sw x))).toNat + _ = _
      cases q x <;> cases inB ap x <;> cases inB ap (sw x) <;> rfl
  have s1 := split fun x => decide (x.1 = v)
  have s2 := split fun x => decide (x.2 = v)
  have s3 := countP_sw n (fun x => decide (x.1 = v) && (inB ap x && inB ap (sw x)))
  have s4 : (idxL n).countP (fun x => decide ((sw x).1 = v) && (inB ap (sw x) && inB ap (sw (sw x)))) = (idxL n).countP (fun x => decide (x.2 = v) && (inB ap x && inB ap (sw x))) :=
    countP_same _ fun x _ => by
      show (decide (x.2 = v) && (inB ap (sw x) && inB ap x)) = _
      cases inB ap x <;> cases inB ap (sw x) <;> rfl
  omega

end Go.Proofs.YtdoaniccefdkaaaGreatDoor

/- The plain mesh: what stays true of it whatever is made. -/
namespace Go.Proofs.YtdoaniccefdkaaaGreatDoor
open Tvf

theorem det_rot (a b c : Pt) : det a b c = det b c a := by
  unfold det
  generalize fval a.1 = ax; generalize fval a.2 = ay; generalize fval b.1 = bx; generalize fval b.2 = by'; generalize fval c.1 = cx; generalize fval c.2 = cy
  grind
theorem det_twin (a b : Pt) : det a a b = 0 := by
  unfold det
  simp
theorem signI_rot (a b c : Pt) : signI a b c = signI b c a := by
  unfold signI
  rw [det_rot]
  cases h1 : ptOK a <;> cases h2 : ptOK b <;> cases h3 : ptOK c <;> simp [h1, h2, h3]
theorem signI_twin (a b : Pt) : signI a a b = 0 := by
  unfold signI
  rw [det_twin]
  split <;> rfl
theorem signM_rot (M : MeshM) (a b c : Nat) : signM M a b c = signM M b c a := signI_rot _ _ _
theorem signM_ne {M : MeshM} {a b c : Nat} (h : 0 < signM M a b c) : a ≠ b ∧ b ≠ c ∧ a ≠ c := by
  have z : ∀ x y : Nat, signM M x x y = 0 := fun x y => signI_twin _ _
  refine ⟨fun e => ?_, fun e => ?_, fun e => ?_⟩
  · subst e; rw [z] at h; omega
  · subst e; rw [signM_rot, z] at h; omega
  · subst e; rw [signM_rot, signM_rot, z] at h; omega

structure Sound (M : MeshM) : Prop where
  rot : Rot M.ap
  win : Within M.ap M.P.length
  sgn : ∀ a b c, M.ap a b = some c → 0 < signM M a.toNat b.toNat c.toNat
  cnt : 3 * M.cnt = (dirL M.ap M.P.length).length
  sp : ∀ a b, b ∈ M.sp a ↔ M.ap a b ≠ none

theorem Sound.within3 {M : MeshM} (h : Sound M) {a b c : Int} (e : M.ap a b = some c) : (0 ≤ a ∧ a < M.P.length) ∧ (0 ≤ b ∧ b < M.P.length) ∧ (0 ≤ c ∧ c < M.P.length) := by
  have h1 := h.win a b (by rw [e]; simp)
  have h2 := h.win b c (by rw [h.rot.rot _ _ _ e]; simp)
  exact ⟨h1.1, h1.2, h2.2⟩

theorem emptyM_sound (l : List Pt) : Sound (emptyM l) := by
  refine ⟨⟨fun _ _ _ h => (nomatch h), fun _ _ _ h => (nomatch h)⟩, fun _ _ h => absurd rfl h, fun _ _ _ h => (nomatch h), ?_, fun a b => ?_⟩
  · have : (idxL l.length).countP (inB (emptyM l).ap) = 0 := List.countP_eq_zero.2 fun x _ => by simp [inB, emptyM]
    rw [dir_count, show (emptyM l).P = l from rfl, this]; rfl
  · simp [emptyM]

theorem countP_upd {α : Type} {p q : α → Bool} {x : α} : ∀ (l : List α), l.Nodup → x ∈ l → (∀ y, y ≠ x → q y = p y) → p x = false → q x = true → l.countP q = l.countP p + 1
  | [], _, hx, _, _, _ => absurd hx (by simp)
  | y :: l, hn, hx, ho, hp, hq => by
    have hn' := List.pairwise_cons.1 hn
    by_cases e : x = y
    · subst e
      have : l.countP q = l.countP p := countP_same l fun z hz => ho z fun e => hn'.1 z hz e.symm
      simp only [List.countP_cons, hp, hq, this]; simp
    · have ih := countP_upd l hn'.2 ((List.mem_cons.1 hx).resolve_left e) ho hp hq
      have := ho y (Ne.symm e)
      simp only [List.countP_cons, ih, this]
      omega

theorem dir_up {ap : Int → Int → Option Int} {n : Nat} {a b c : Int} (ha : 0 ≤ a ∧ a < n) (hb : 0 ≤ b ∧ b < n) (h : ap a b = none) : (dirL (upE ap a b c) n).length = (dirL ap n).length + 1 := by
  rw [dir_count, dir_count]
  refine countP_upd (x := (a, b)) _ (ltP_nodup (idxL_sorted n)) (mem_idxL.2 ⟨ha, hb⟩) (fun y hy => ?_) ?_ ?_
  · unfold inB upE
    rw [if_neg]
    rintro ⟨e1, e2⟩
    exact hy (by obtain ⟨u, v⟩ := y; dsimp only at e1 e2; rw [e1, e2])
  · unfold inB; dsimp only; rw [h]; rfl
  · unfold inB upE; simp

theorem dir_del {ap : Int → Int → Option Int} {n : Nat} {a b : Int} (ha : 0 ≤ a ∧ a < n) (hb : 0 ≤ b ∧ b < n) (h : ap a b ≠ none) : (dirL ap n).length = (dirL (delE ap a b) n).length + 1 := by
  rw [dir_count, dir_count]
  refine countP_upd (x := (a, b)) _ (ltP_nodup (idxL_sorted n)) (mem_idxL.2 ⟨ha, hb⟩) (fun y hy => ?_) ?_ ?_
  · unfold inB delE
    rw [if_neg]
    rintro ⟨e1, e2⟩
    exact hy (by obtain ⟨u, v⟩ := y; dsimp only at e1 e2; rw [e1, e2])
  · unfold inB delE; simp
  · unfold inB; dsimp only; cases e : ap a b
    · exact absurd e h
    · rfl

/-- the edges behind a triangle more, and less -/
def up3 (ap : Int → Int → Option Int) (a b c : Int) : Int → Int → Option Int := upE (upE (upE ap a b c) b c a) c a b
def del3 (ap : Int → Int → Option Int) (a b c : Int) : Int → Int → Option Int := delE (delE (delE ap a b) b c) c a

theorem up3_some {ap : Int → Int → Option Int} {a b c x y z : Int} (h0 : ap a b = none) (h1 : ap b c = none) (h2 : ap c a = none) (hne : a ≠ b ∧ b ≠ c ∧ a ≠ c) :
    up3 ap a b c x y = some z ↔ ap x y = some z ∨ (x = a ∧ y = b ∧ z = c) ∨ (x = b ∧ y = c ∧ z = a) ∨ (x = c ∧ y = a ∧ z = b) := by
  unfold up3 upE
  by_cases q1 : x = c ∧ y = a
  · rw [if_pos q1]; obtain ⟨rfl, rfl⟩ := q1
    rw [h2]; simp only [Option.some.injEq, reduceCtorEq, false_or, true_and]
    constructor <;> intro h <;> omega
  · rw [if_neg q1]
    by_cases q2 : x = b ∧ y = c
    · rw [if_pos q2]; obtain ⟨rfl, rfl⟩ := q2
      rw [h1]; simp only [Option.some.injEq, reduceCtorEq, false_or, true_and]
      constructor <;> intro h <;> omega
    · rw [if_neg q2]
      by_cases q3 : x = a ∧ y = b
      · rw [if_pos q3]; obtain ⟨rfl, rfl⟩ := q3
        rw [h0]; simp only [Option.some.injEq, reduceCtorEq, false_or, true_and]
        constructor <;> intro h <;> omega
      · rw [if_neg q3]
        constructor
        · exact .inl
        · rintro (e | ⟨e1, e2, _⟩ | ⟨e1, e2, _⟩ | ⟨e1, e2, _⟩)
          · exact e
          · exact absurd ⟨e1, e2⟩ q3
          · exact absurd ⟨e1, e2⟩ q2
          · exact absurd ⟨e1, e2⟩ q1

theorem del3_some {ap : Int → Int → Option Int} {a b c x y z : Int} :
    del3 ap a b c x y = some z ↔ ap x y = some z ∧ ¬(x = a ∧ y = b) ∧ ¬(x = b ∧ y = c) ∧ ¬(x = c ∧ y = a) := by
  unfold del3 delE
  by_cases q1 : x = c ∧ y = a
  · rw [if_pos q1]; simp [q1]
  · rw [if_neg q1]
    by_cases q2 : x = b ∧ y = c
    · rw [if_pos q2]; simp [q2]
    · rw [if_neg q2]
      by_cases q3 : x = a ∧ y = b
      · rw [if_pos q3]; simp [q3]
      · rw [if_neg q3]
        exact ⟨fun e => ⟨e, q3, q2, q1⟩, fun e => e.1⟩

theorem opt_ext {f g : Int → Int → Option Int} (h : ∀ x y z, f x y = some z ↔ g x y = some z) : f = g := by
  funext x y
  cases e : f x y with
  | none =>
    cases e' : g x y with
    | none => rfl
    | some z => rw [(h x y z).2 e'] at e; cases e
  | some z => exact ((h x y z).1 e).symm

/-- a triangle that is made, and goes -/
theorem del_up {ap : Int → Int → Option Int} {a b c : Int} (h0 : ap a b = none) (h1 : ap b c = none) (h2 : ap c a = none) (hne : a ≠ b ∧ b ≠ c ∧ a ≠ c) : del3 (up3 ap a b c) c a b = ap := by
  refine opt_ext fun x y z => ?_
  rw [del3_some, up3_some h0 h1 h2 hne]
  constructor
  · rintro ⟨e | ⟨e1, e2, _⟩ | ⟨e1, e2, _⟩ | ⟨e1, e2, _⟩, q1, q2, q3⟩
    · exact e
    · exact absurd ⟨e1, e2⟩ q2
    · exact absurd ⟨e1, e2⟩ q3
    · exact absurd ⟨e1, e2⟩ q1
  · intro e
    refine ⟨.inl e, ?_, ?_, ?_⟩ <;> rintro ⟨rfl, rfl⟩
    · rw [h2] at e; cases e
    · rw [h0] at e; cases e
    · rw [h1] at e; cases e

/-- a triangle that goes, and is made again -/
theorem up_del {ap : Int → Int → Option Int} (hr : Rot ap) {a b c : Int} (h : ap a b = some c) : up3 (del3 ap b c a) a b c = ap := by
  have h1 := hr.rot _ _ _ h
  have h2 := hr.rot _ _ _ h1
  have gone : ∀ x y, (x = b ∧ y = c) ∨ (x = c ∧ y = a) ∨ (x = a ∧ y = b) → del3 ap b c a x y = none := by
    intro x y hxy
    cases e : del3 ap b c a x y with
    | none => rfl
    | some z =>
      have := del3_some.1 e
      rcases hxy with q | q | q
      · exact absurd q this.2.1
      · exact absurd q this.2.2.1
      · exact absurd q this.2.2.2
  refine opt_ext fun x y z => ?_
  rw [up3_some (gone _ _ (.inr (.inr ⟨rfl, rfl⟩))) (gone _ _ (.inl ⟨rfl, rfl⟩)) (gone _ _ (.inr (.inl ⟨rfl, rfl⟩))) (hr.ne _ _ _ h), del3_some]
  constructor
  · rintro (e | ⟨rfl, rfl, rfl⟩ | ⟨rfl, rfl, rfl⟩ | ⟨rfl, rfl, rfl⟩)
    · exact e.1
    · exact h
    · exact h1
    · exact h2
  · intro e
    by_cases q1 : x = a ∧ y = b
    · obtain ⟨rfl, rfl⟩ := q1
      rw [h] at e; cases e; exact .inr (.inl ⟨rfl, rfl, rfl⟩)
    · by_cases q2 : x = b ∧ y = c
      · obtain ⟨rfl, rfl⟩ := q2
        rw [h1] at e; cases e; exact .inr (.inr (.inl ⟨rfl, rfl, rfl⟩))
      · by_cases q3 : x = c ∧ y = a
        · obtain ⟨rfl, rfl⟩ := q3
          rw [h2] at e; cases e; exact .inr (.inr (.inr ⟨rfl, rfl, rfl⟩))
        · exact .inl ⟨e, q2, q3, q1⟩

theorem makeM_ap (M : MeshM) (a b c : Int) : (makeM M a b c).ap = up3 M.ap a b c := rfl
theorem makeM_P (M : MeshM) (a b c : Int) : (makeM M a b c).P = M.P := rfl

/-- Make answers 0: what holds then -/
theorem makeCode_ok {M : MeshM} {a b c : Int} (h : makeCode M a b c = 0) :
    ((0 ≤ a ∧ a < M.P.length) ∧ (0 ≤ b ∧ b < M.P.length) ∧ (0 ≤ c ∧ c < M.P.length)) ∧ 0 < signM M a.toNat b.toNat c.toNat ∧ M.ap a b = none ∧ M.ap b c = none ∧ M.ap c a = none := by
  unfold makeCode at h
  split at h
  · cases h
  · rename_i h1
    split at h
    · cases h
    · rename_i h2
      split at h
      · cases h
      · rename_i h3
        unfold takenB at h3
        unfold hasM at h1
        simp only [Bool.and_eq_true, decide_eq_true_eq, Bool.not_eq_false, Bool.or_eq_true, not_or, Bool.not_eq_true, Option.isSome_eq_false_iff, Option.isNone_iff_eq_none] at h1 h3
        exact ⟨⟨h1.1.1, h1.1.2, h1.2⟩, by omega, h3.1.1, h3.1.2, h3.2⟩

theorem makeCode_of {M : MeshM} {a b c : Int} (h1 : (0 ≤ a ∧ a < M.P.length) ∧ (0 ≤ b ∧ b < M.P.length) ∧ (0 ≤ c ∧ c < M.P.length)) (h2 : 0 < signM M a.toNat b.toNat c.toNat) (h3 : M.ap a b = none ∧ M.ap b c = none ∧ M.ap c a = none) : makeCode M a b c = 0 := by
  unfold makeCode
  rw [if_neg, if_neg, if_neg]
  · unfold takenB; rw [h3.1, h3.2.1, h3.2.2]; simp
  · omega
  · unfold hasM; simp; omega

theorem mem_upI {f : Int → List Int} {a x y : Int} {l : List Int} : y ∈ upI f a l x ↔ (x = a ∧ y ∈ l) ∨ (x ≠ a ∧ y ∈ f x) := by
  unfold upI
  split
  · rename_i e; simp [e]
  · rename_i e; simp [e]

theorem up_ne_none {ap : Int → Int → Option Int} {a b c x y : Int} : upE ap a b c x y ≠ none ↔ (x = a ∧ y = b) ∨ ap x y ≠ none := by
  unfold upE
  split
  · rename_i e; simp [e]
  · rename_i e; simp [e]

theorem sp_up {ap : Int → Int → Option Int} {sp : Int → List Int} (h : ∀ x y, y ∈ sp x ↔ ap x y ≠ none) (a b c : Int) : ∀ x y, y ∈ upI sp a (sp a ++ [b]) x ↔ upE ap a b c x y ≠ none := by
  intro x y
  rw [mem_upI, up_ne_none, List.mem_append, List.mem_singleton]
  constructor
  · rintro (⟨rfl, e | e⟩ | ⟨_, e⟩)
    · exact .inr ((h _ _).1 e)
    · exact .inl ⟨rfl, e⟩
    · exact .inr ((h _ _).1 e)
  · rintro (⟨e1, e2⟩ | e)
    · exact .inl ⟨e1, .inr e2⟩
    · by_cases q : x = a
      · subst q; exact .inl ⟨rfl, .inl ((h _ _).2 e)⟩
      · exact .inr ⟨q, (h _ _).2 e⟩

theorem sgn_toNat {M : MeshM} {a b c : Int} (h : 0 < signM M a.toNat b.toNat c.toNat) (h0 : 0 ≤ a ∧ 0 ≤ b ∧ 0 ≤ c) : a ≠ b ∧ b ≠ c ∧ a ≠ c := by
  have := signM_ne h
  omega

theorem makeR_sound {M : MeshM} (h : Sound M) (a b c : Int) : Sound (makeR M a b c) := by
  unfold makeR
  split
  · rename_i hc
    obtain ⟨⟨ra, rb, rc⟩, hs, h0, h1, h2⟩ := makeCode_ok hc
    have hne := sgn_toNat hs ⟨ra.1, rb.1, rc.1⟩
    have hs2 : 0 < signM M b.toNat c.toNat a.toNat := by rw [<- signM_rot]; exact hs
    have hs3 : 0 < signM M c.toNat a.toNat b.toNat := by rw [<- signM_rot]; exact hs2
    have S := fun x y z => up3_some (x := x) (y := y) (z := z) h0 h1 h2 hne
    refine ⟨⟨fun x y z e => ?_, fun x y z e => ?_⟩, fun x y e => ?_, fun x y z e => ?_, ?_, ?_⟩
    · rw [makeM_ap, S] at e ⊢
      rcases e with e | ⟨rfl, rfl, rfl⟩ | ⟨rfl, rfl, rfl⟩ | ⟨rfl, rfl, rfl⟩
      · exact .inl (h.rot.rot _ _ _ e)
      · exact .inr (.inr (.inl ⟨rfl, rfl, rfl⟩))
      · exact .inr (.inr (.inr ⟨rfl, rfl, rfl⟩))
      · exact .inr (.inl ⟨rfl, rfl, rfl⟩)
    · rw [makeM_ap, S] at e
      rcases e with e | ⟨rfl, rfl, rfl⟩ | ⟨rfl, rfl, rfl⟩ | ⟨rfl, rfl, rfl⟩
      · exact h.rot.ne _ _ _ e
      · exact hne
      · exact ⟨hne.2.1, Ne.symm hne.2.2, Ne.symm hne.1⟩
      · exact ⟨Ne.symm hne.2.2, hne.1, Ne.symm hne.2.1⟩
    · obtain ⟨z, e⟩ := Option.ne_none_iff_exists'.1 e
      rw [makeM_ap, S] at e
      rw [makeM_P]
      rcases e with e | ⟨rfl, rfl, rfl⟩ | ⟨rfl, rfl, rfl⟩ | ⟨rfl, rfl, rfl⟩
      · exact h.win _ _ (by rw [e]; simp)
      · exact ⟨ra, rb⟩
      · exact ⟨rb, rc⟩
      · exact ⟨rc, ra⟩
    · rw [makeM_ap, S] at e
      show 0 < signM M x.toNat y.toNat z.toNat
      rcases e with e | ⟨rfl, rfl, rfl⟩ | ⟨rfl, rfl, rfl⟩ | ⟨rfl, rfl, rfl⟩
      · exact h.sgn _ _ _ e
      · exact hs
      · exact hs2
      · exact hs3
    · rw [makeM_ap, makeM_P]
      show 3 * (M.cnt + 1) = _
      unfold up3
      rw [dir_up rc ra, dir_up rb rc, dir_up ra rb h0]
      · have := h.cnt; omega
      · unfold upE; rw [if_neg (by intro e; exact hne.1 e.1.symm)]; exact h1
      · unfold upE; rw [if_neg (by intro e; exact hne.2.1 e.1.symm), if_neg (by intro e; exact hne.2.2 e.1.symm)]; exact h2
    · exact sp_up (sp_up (sp_up h.sp a b c) b c a) c a b
  · exact h

end Go.Proofs.YtdoaniccefdkaaaGreatDoor

/- The plain mesh: made of its own triangles again; a triangle that is made and goes. -/
namespace Go.Proofs.YtdoaniccefdkaaaGreatDoor

def rotT (j : Nat) (t : Tri3) : Tri3 := if j = 0 then t else if j = 1 then (t.2.1, t.2.2, t.1) else (t.2.2, t.1, t.2.1)
def inT (t : Tri3) (x y z : Int) : Prop := (x = t.1 ∧ y = t.2.1 ∧ z = t.2.2) ∨ (x = t.2.1 ∧ y = t.2.2 ∧ z = t.1) ∨ (x = t.2.2 ∧ y = t.1 ∧ z = t.2.1)
theorem inT_rot (j : Nat) (t : Tri3) (x y z : Int) : inT (rotT j t) x y z ↔ inT t x y z := by
  unfold rotT inT
  split
  · exact Iff.rfl
  · split <;> dsimp only <;> constructor <;> intro h <;> omega

def foldM (M : MeshM) (l : List Tri3) : MeshM := l.foldl (fun M t => makeR M t.1 t.2.1 t.2.2) M
theorem foldM_nil (M : MeshM) : foldM M [] = M := rfl
theorem foldM_cons (M : MeshM) (t : Tri3) (l : List Tri3) : foldM M (t :: l) = foldM (makeR M t.1 t.2.1 t.2.2) l := rfl
theorem foldM_snoc (M : MeshM) (t : Tri3) (l : List Tri3) : foldM M (l ++ [t]) = makeR (foldM M l) t.1 t.2.1 t.2.2 := by unfold foldM; rw [List.foldl_append]; rfl
theorem makeR_P (M : MeshM) (a b c : Int) : (makeR M a b c).P = M.P := by unfold makeR; split <;> rfl
theorem foldM_P (l : List Tri3) : ∀ M : MeshM, (foldM M l).P = M.P := by
  induction l with
  | nil => exact fun _ => rfl
  | cons t l ih => intro M; rw [foldM_cons, ih, makeR_P]
theorem foldM_sound (l : List Tri3) : ∀ {M : MeshM}, Sound M → Sound (foldM M l) := by
  induction l with
  | nil => exact fun h => h
  | cons t l ih => intro M h; rw [foldM_cons]; exact ih (makeR_sound h _ _ _)
theorem madeM_sound (P : List Pt) (l : List Tri3) : Sound (foldM (emptyM P) l) := foldM_sound l (emptyM_sound P)

/-- all are made -/
def allOk : MeshM → List Tri3 → Prop
  | _, [] => True
  | M, t :: r => makeCode M t.1 t.2.1 t.2.2 = 0 ∧ allOk (makeR M t.1 t.2.1 t.2.2) r

theorem allOk_at : ∀ (l : List Tri3) (M : MeshM), allOk M l → ∀ k, (hk : k < l.length) → makeCode (foldM M (l.take k)) l[k].1 l[k].2.1 l[k].2.2 = 0
  | [], _, _, k, hk => absurd hk (by simp)
  | t :: r, M, h, 0, _ => h.1
  | t :: r, M, h, k + 1, hk => by
    have := allOk_at r _ h.2 k (by simpa using hk)
    exact this

theorem rot_in {ap : Int → Int → Option Int} (hr : Rot ap) {t : Tri3} (h : ap t.1 t.2.1 = some t.2.2) {x y z : Int} (hi : inT t x y z) : ap x y = some z := by
  have h1 := hr.rot _ _ _ h
  have h2 := hr.rot _ _ _ h1
  rcases hi with ⟨rfl, rfl, rfl⟩ | ⟨rfl, rfl, rfl⟩ | ⟨rfl, rfl, rfl⟩ <;> assumption

theorem signM_P {M M' : MeshM} (h : M'.P = M.P) (a b c : Nat) : signM M' a b c = signM M a b c := by unfold signM; rw [h]

theorem again {M : MeshM} (h : Sound M) : ∀ (l done : List Tri3) (M0 : MeshM), M0.P = M.P → (∀ x y z, M0.ap x y = some z ↔ ∃ t, t ∈ done ∧ inT t x y z) → (∀ t, t ∈ done ++ l → M.ap t.1 t.2.1 = some t.2.2) →
    (done ++ l).Pairwise (fun t u => ∀ x y z, ¬(inT t x y z ∧ inT u x y z)) → allOk M0 l ∧ ∀ x y z, (foldM M0 l).ap x y = some z ↔ ∃ t, t ∈ done ++ l ∧ inT t x y z
  | [], done, M0, _, hd, _, _ => ⟨trivial, fun x y z => by rw [foldM_nil, List.append_nil]; exact hd x y z⟩
  | t :: r, done, M0, hP, hd, hin, hp => by
    have ht := hin t (by simp)
    have hw := h.within3 ht
    have hs := h.sgn _ _ _ ht
    have hpa := List.pairwise_append.1 hp
    have free : ∀ x y z, inT t x y z → M0.ap x y = none := by
      intro x y z hi
      cases e : M0.ap x y with
      | none => rfl
      | some v =>
        obtain ⟨u, hu, hui⟩ := (hd x y v).1 e
        have e1 := rot_in h.rot (hin u (by simp [hu])) hui
        have e2 := rot_in h.rot ht hi
        rw [e1] at e2; cases e2
        exact absurd ⟨hui, hi⟩ (hpa.2.2 u hu t (by simp) x y _)
    have f0 := free t.1 t.2.1 t.2.2 (.inl ⟨rfl, rfl, rfl⟩)
    have f1 := free t.2.1 t.2.2 t.1 (.inr (.inl ⟨rfl, rfl, rfl⟩))
    have f2 := free t.2.2 t.1 t.2.1 (.inr (.inr ⟨rfl, rfl, rfl⟩))
    have hc : makeCode M0 t.1 t.2.1 t.2.2 = 0 := makeCode_of (by rw [hP]; exact hw) (by rw [signM_P hP]; exact hs) ⟨f0, f1, f2⟩
    have hR : makeR M0 t.1 t.2.1 t.2.2 = makeM M0 t.1 t.2.1 t.2.2 := by unfold makeR; rw [if_pos hc]
    have happ : done ++ t :: r = (done ++ [t]) ++ r := by simp
    have ih := again h r (done ++ [t]) (makeR M0 t.1 t.2.1 t.2.2) (by rw [makeR_P]; exact hP) (fun x y z => by
      rw [hR, makeM_ap, up3_some f0 f1 f2 (h.rot.ne _ _ _ ht), hd]
      constructor
      · rintro (⟨u, hu, hui⟩ | e)
        · exact ⟨u, by simp [hu], hui⟩
        · exact ⟨t, by simp, e⟩
      · rintro ⟨u, hu, hui⟩
        rcases List.mem_append.1 hu with hu | hu
        · exact .inl ⟨u, hu, hui⟩
        · rw [List.mem_singleton] at hu; subst hu; exact .inr hui) (by rw [<- happ]; exact hin) (by rw [<- happ]; exact hp)
    rw [foldM_cons, happ]
    exact ⟨⟨hc, ih.1⟩, ih.2⟩

/-- the triangles from other corners on, in another order -/
def turnL (T : List Tri3) (s : Nat) : List Tri3 := (List.range T.length).map fun i => rotT ((i + (i + s) % T.length) % 3) (T.getD ((i + s) % T.length) (0, 0, 0))

theorem canon_eq {t u : Tri3} (ht : t.1 < t.2.1 ∧ t.1 < t.2.2) (hu : u.1 < u.2.1 ∧ u.1 < u.2.2) {x y z : Int} (h : inT t x y z) (k : inT u x y z) : t = u := by
  unfold inT at *
  obtain ⟨a, b, c⟩ := t; obtain ⟨d, e, f⟩ := u
  simp only [Prod.mk.injEq]
  dsimp only at *
  omega

theorem mod_inj {n i j s : Nat} (hi : i < n) (hj : j < n) (h : (i + s) % n = (j + s) % n) : i = j := by
  have h1 := Nat.mod_add_div (i + s) n
  have h2 := Nat.mod_add_div (j + s) n
  rw [h] at h1
  generalize (i + s) / n = a at *
  generalize (j + s) / n = b at *
  rcases Nat.lt_trichotomy a b with q | q | q
  · have : n * (a + 1) ≤ n * b := Nat.mul_le_mul_left n q
    rw [Nat.mul_add] at this; omega
  · subst q; omega
  · have : n * (b + 1) ≤ n * a := Nat.mul_le_mul_left n q
    rw [Nat.mul_add] at this; omega

theorem mod_onto {n k s : Nat} (hk : k < n) : ∃ i, i < n ∧ (i + s) % n = k := by
  refine ⟨(k + (n - s % n)) % n, Nat.mod_lt _ (by omega), ?_⟩
  have hs := Nat.mod_lt s (show n > 0 by omega)
  rw [Nat.mod_add_mod]
  have h1 := Nat.mod_add_div s n
  have e : k + (n - s % n) + s = k + n * (1 + s / n) := by rw [Nat.mul_add]; omega
  rw [e, Nat.add_mul_mod_self_left, Nat.mod_eq_of_lt hk]

theorem getD_mem3 {l : List Tri3} {k : Nat} (h : k < l.length) : l.getD k (0, 0, 0) ∈ l := by
  rw [List.getD_eq_getElem?_getD, List.getElem?_eq_getElem h]; exact List.getElem_mem h

theorem nodup_getD {l : List Tri3} (h : l.Nodup) {i j : Nat} (hi : i < l.length) (hj : j < l.length) (e : l.getD i (0, 0, 0) = l.getD j (0, 0, 0)) : i = j := by
  rw [List.getD_eq_getElem?_getD, List.getD_eq_getElem?_getD, List.getElem?_eq_getElem hi, List.getElem?_eq_getElem hj] at e
  have hp := List.pairwise_iff_getElem.1 h
  simp only [Option.getD_some] at e
  rcases Nat.lt_trichotomy i j with q | q | q
  · exact absurd e (hp i j hi hj q)
  · exact q
  · exact absurd e.symm (hp j i hj hi q)

theorem again_all {M : MeshM} (h : Sound M) (s : Nat) :
    allOk (emptyM M.P) (turnL (trisL M.ap M.P.length) s) ∧ (foldM (emptyM M.P) (turnL (trisL M.ap M.P.length) s)).ap = M.ap := by
  have hT := fun x => mem_trisL h.win (x := x)
  have hnd : (trisL M.ap M.P.length).Nodup := by
    refine List.Pairwise.imp ?_ (trisL_sorted M.ap M.P.length)
    rintro a b hlt rfl
    exact ltT_irr _ hlt
  generalize trisL M.ap M.P.length = T at *
  have mem : ∀ u, u ∈ turnL T s ↔ ∃ i, i < T.length ∧ rotT ((i + (i + s) % T.length) % 3) (T.getD ((i + s) % T.length) (0, 0, 0)) = u := by
    intro u; unfold turnL; simp [List.mem_map, List.mem_range]
  have lt : ∀ i, i < T.length → (i + s) % T.length < T.length := fun i hi => Nat.mod_lt _ (by omega)
  have A := again h (turnL T s) [] (emptyM M.P) rfl (fun x y z => ⟨fun e => (nomatch e), by rintro ⟨t, ht, _⟩; simp at ht⟩) (fun t ht => by
    rw [List.nil_append, mem] at ht
    obtain ⟨i, hi, rfl⟩ := ht
    have := (hT _).1 (getD_mem3 (lt i hi))
    refine rot_in h.rot this.1 ((inT_rot ((i + (i + s) % T.length) % 3) _ _ _ _).1 (.inl ⟨rfl, rfl, rfl⟩))) (by
    rw [List.nil_append]
    unfold turnL
    rw [List.pairwise_map]
    refine List.Pairwise.imp_of_mem ?_ (List.pairwise_lt_range (n := T.length))
    intro i j hi hj hij x y z hh
    rw [List.mem_range] at hi hj
    rw [inT_rot, inT_rot] at hh
    have e := canon_eq ((hT _).1 (getD_mem3 (lt i hi))).2 ((hT _).1 (getD_mem3 (lt j hj))).2 hh.1 hh.2
    have := mod_inj hi hj (nodup_getD hnd (lt i hi) (lt j hj) e)
    omega)
  refine ⟨A.1, opt_ext fun x y z => ?_⟩
  rw [A.2, List.nil_append]
  constructor
  · rintro ⟨u, hu, hui⟩
    rw [mem] at hu
    obtain ⟨i, hi, rfl⟩ := hu
    rw [inT_rot] at hui
    exact rot_in h.rot ((hT _).1 (getD_mem3 (lt i hi))).1 hui
  · intro e
    have e1 := h.rot.rot _ _ _ e
    have e2 := h.rot.rot _ _ _ e1
    have hn := h.rot.ne _ _ _ e
    have key : ∃ t, t ∈ T ∧ inT t x y z := by
      by_cases q1 : x < y ∧ x < z
      · exact ⟨(x, y, z), (hT _).2 ⟨e, q1⟩, .inl ⟨rfl, rfl, rfl⟩⟩
      · by_cases q2 : y < z ∧ y < x
        · exact ⟨(y, z, x), (hT _).2 ⟨e1, q2⟩, .inr (.inr ⟨rfl, rfl, rfl⟩)⟩
        · exact ⟨(z, x, y), (hT _).2 ⟨e2, by dsimp only; omega⟩, .inr (.inl ⟨rfl, rfl, rfl⟩)⟩
    obtain ⟨t, ht, hti⟩ := key
    obtain ⟨k, hk, rfl⟩ := List.getElem_of_mem ht
    obtain ⟨i, hi, hik⟩ := mod_onto (s := s) hk
    refine ⟨_, (mem _).2 ⟨i, hi, rfl⟩, ?_⟩
    rw [inT_rot, hik]
    rw [List.getD_eq_getElem?_getD, List.getElem?_eq_getElem hk]
    exact hti

end Go.Proofs.YtdoaniccefdkaaaGreatDoor

/- The plain mesh: a triangle goes. -/
namespace Go.Proofs.YtdoaniccefdkaaaGreatDoor

/-- an edge less, with its spoke -/
def dropE (M : MeshM) (a b : Int) : MeshM := { M with ap := delE M.ap a b, sp := upI M.sp a ((M.sp a).filter fun x => !decide (x = b)) }
/-- a triangle less -/
def killM (M : MeshM) (a b c : Int) : MeshM := { dropE (dropE (dropE M a b) b c) c a with cnt := M.cnt - 1 }
def killCode (M : MeshM) (a b c : Int) : Int := if M.ap a b = some c then 0 else 5
def killR (M : MeshM) (a b c : Int) : MeshM := if M.ap a b = some c then killM M a b c else M

theorem killM_ap (M : MeshM) (a b c : Int) : (killM M a b c).ap = del3 M.ap a b c := rfl
theorem killM_P (M : MeshM) (a b c : Int) : (killM M a b c).P = M.P := rfl
theorem killR_P (M : MeshM) (a b c : Int) : (killR M a b c).P = M.P := by unfold killR; split <;> rfl

theorem del_ne_none {ap : Int → Int → Option Int} {a b x y : Int} : delE ap a b x y ≠ none ↔ ¬(x = a ∧ y = b) ∧ ap x y ≠ none := by
  unfold delE
  split
  · rename_i e; simp [e]
  · rename_i e; simp [e]

theorem sp_del {ap : Int → Int → Option Int} {sp : Int → List Int} (h : ∀ x y, y ∈ sp x ↔ ap x y ≠ none) (a b : Int) : ∀ x y, y ∈ upI sp a ((sp a).filter fun x => !decide (x = b)) x ↔ delE ap a b x y ≠ none := by
  intro x y
  rw [mem_upI, del_ne_none, List.mem_filter]
  simp only [Bool.not_eq_true', decide_eq_false_iff_not]
  constructor
  · rintro (⟨rfl, e, k⟩ | ⟨k, e⟩)
    · exact ⟨fun q => k q.2, (h _ _).1 e⟩
    · exact ⟨fun q => k q.1, (h _ _).1 e⟩
  · rintro ⟨k, e⟩
    by_cases q : x = a
    · subst q; exact .inl ⟨rfl, (h _ _).2 e, fun e => k ⟨rfl, e⟩⟩
    · exact .inr ⟨q, (h _ _).2 e⟩

theorem killM_sound {M : MeshM} (h : Sound M) {a b c : Int} (e : M.ap a b = some c) : Sound (killM M a b c) := by
  have e1 := h.rot.rot _ _ _ e
  have e2 := h.rot.rot _ _ _ e1
  have hn := h.rot.ne _ _ _ e
  have hw := h.within3 e
  refine ⟨⟨fun x y z k => ?_, fun x y z k => ?_⟩, fun x y k => ?_, fun x y z k => ?_, ?_, ?_⟩
  · rw [killM_ap, del3_some] at k ⊢
    have k1 := h.rot.rot _ _ _ k.1
    have k2 := h.rot.rot _ _ _ k1
    refine ⟨k1, ?_, ?_, ?_⟩ <;> rintro ⟨rfl, rfl⟩
    · rw [e] at k1; cases k1; exact k.2.2.2 ⟨rfl, rfl⟩
    · rw [e1] at k1; cases k1; exact k.2.1 ⟨rfl, rfl⟩
    · rw [e2] at k1; cases k1; exact k.2.2.1 ⟨rfl, rfl⟩
  · rw [killM_ap, del3_some] at k
    exact h.rot.ne _ _ _ k.1
  · obtain ⟨z, k⟩ := Option.ne_none_iff_exists'.1 k
    rw [killM_ap, del3_some] at k
    exact h.win _ _ (by rw [k.1]; simp)
  · rw [killM_ap, del3_some] at k
    exact h.sgn _ _ _ k.1
  · rw [killM_ap, killM_P]
    show 3 * (M.cnt - 1) = _
    unfold del3
    have d1 := dir_del (n := M.P.length) hw.1 hw.2.1 (ap := M.ap) (by rw [e]; simp)
    have d2 := dir_del (n := M.P.length) hw.2.1 hw.2.2 (ap := delE M.ap a b) (by rw [del_ne_none, e1]; exact ⟨fun q => hn.1 q.1.symm, by simp⟩)
    have d3 := dir_del (n := M.P.length) hw.2.2 hw.1 (ap := delE (delE M.ap a b) b c) (by rw [del_ne_none, del_ne_none, e2]; exact ⟨fun q => hn.2.1 q.1.symm, fun q => hn.2.2 q.1.symm, by simp⟩)
    have := h.cnt
    omega
  · exact sp_del (sp_del (sp_del h.sp a b) b c) c a

theorem killR_sound {M : MeshM} (h : Sound M) (a b c : Int) : Sound (killR M a b c) := by
  unfold killR
  split
  · rename_i e; exact killM_sound h e
  · exact h

/-- made, and gone -/
theorem make_kill {M : MeshM} {a b c : Int} (hc : makeCode M a b c = 0) : (makeR M a b c).cnt = M.cnt + 1 ∧ killCode (makeR M a b c) c a b = 0 ∧ (killR (makeR M a b c) c a b).ap = M.ap := by
  obtain ⟨⟨ra, rb, rc⟩, hs, h0, h1, h2⟩ := makeCode_ok hc
  have hne := sgn_toNat hs ⟨ra.1, rb.1, rc.1⟩
  have hR : makeR M a b c = makeM M a b c := by unfold makeR; rw [if_pos hc]
  have e : (makeR M a b c).ap c a = some b := by rw [hR, makeM_ap, up3_some h0 h1 h2 hne]; exact .inr (.inr (.inr ⟨rfl, rfl, rfl⟩))
  refine ⟨by rw [hR]; rfl, by unfold killCode; rw [if_pos e], ?_⟩
  unfold killR
  rw [if_pos e, killM_ap, hR, makeM_ap]
  exact del_up h0 h1 h2 hne

/-- gone, and made again -/
theorem kill_make {M : MeshM} (h : Sound M) {a b c : Int} (e : M.ap a b = some c) :
    killCode M b c a = 0 ∧ makeCode (killR M b c a) a b c = 0 ∧ (makeR (killR M b c a) a b c).ap = M.ap := by
  have e1 := h.rot.rot _ _ _ e
  have hK : killR M b c a = killM M b c a := by unfold killR; rw [if_pos e1]
  have gone : ∀ x y, (x = b ∧ y = c) ∨ (x = c ∧ y = a) ∨ (x = a ∧ y = b) → del3 M.ap b c a x y = none := by
    intro x y hxy
    cases e : del3 M.ap b c a x y with
    | none => rfl
    | some z =>
      have := del3_some.1 e
      rcases hxy with q | q | q
      · exact absurd q this.2.1
      · exact absurd q this.2.2.1
      · exact absurd q this.2.2.2
  have hc : makeCode (killR M b c a) a b c = 0 := by
    rw [hK]
    refine makeCode_of ?_ ?_ ⟨gone _ _ (.inr (.inr ⟨rfl, rfl⟩)), gone _ _ (.inl ⟨rfl, rfl⟩), gone _ _ (.inr (.inl ⟨rfl, rfl⟩))⟩
    · rw [killM_P]; exact h.within3 e
    · rw [signM_P (killM_P M b c a)]; exact h.sgn _ _ _ e
  refine ⟨by unfold killCode; rw [if_pos e1], hc, ?_⟩
  unfold makeR
  rw [if_pos hc, makeM_ap, hK, killM_ap]
  exact up_del h.rot e

end Go.Proofs.YtdoaniccefdkaaaGreatDoor
