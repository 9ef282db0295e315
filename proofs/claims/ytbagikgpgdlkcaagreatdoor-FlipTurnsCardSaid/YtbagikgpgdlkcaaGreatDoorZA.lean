/- Part of the proof. No conditions. -/
import Derived.Test.YtbagikgpgdlkcaaGreatDoorZ9
set_option linter.all false
set_option maxHeartbeats 8000000
set_option maxRecDepth 100000
namespace Go.Proofs.YtbagikgpgdlkcaaGreatDoor
theorem pw_unique {α : Type} {lt : α → α → Prop} (irr : ∀ x,¬lt x x) (tr : ∀ x y z,lt x y → lt y z → lt x z) :
  ∀ (l1 l2 : List α),l1.Pairwise lt → l2.Pairwise lt → (∀ x,x ∈ l1 ↔ x ∈ l2) → l1 = l2
 | [],[],_,_,_ => rfl
 | [],y :: r,_,_,h => absurd ((h y).2 (List.mem_cons_self ..)) (by simp)
 | x :: r,[],_,_,h => absurd ((h x).1 (List.mem_cons_self ..)) (by simp)
 | x :: r,y :: s,h1,h2,h => by
  have hx := List.pairwise_cons.1 h1
  have hy := List.pairwise_cons.1 h2
  have e : x = y := by
   rcases List.mem_cons.1 ((h x).1 (List.mem_cons_self ..)) with e | e
   ·exact e
   ·rcases List.mem_cons.1 ((h y).2 (List.mem_cons_self ..)) with e' | e'
    ·exact e'.symm
    ·exact absurd (tr _ _ _ (hx.1 y e') (hy.1 x e)) (irr x)
  subst e
  have hr : r = s := by
   refine pw_unique irr tr r s hx.2 hy.2 fun z => ⟨fun hz => ?_,fun hz => ?_⟩
   ·rcases List.mem_cons.1 ((h z).1 (List.mem_cons_of_mem _ hz)) with e | e
    ·exact absurd (hx.1 z hz) (e ▸ irr z)
    ·exact e
   ·rcases List.mem_cons.1 ((h z).2 (List.mem_cons_of_mem _ hz)) with e | e
    ·exact absurd (hy.1 z hz) (e ▸ irr z)
    ·exact e
  rw [hr]
theorem pw_strict {α : Type} {lt : α → α → Prop} (tot : ∀ x y,¬lt x y → ¬lt y x → x = y) : ∀ (l : List α),l.Nodup → l.Pairwise (fun x y => ¬lt y x) → l.Pairwise lt
 | [],_,_ => List.Pairwise.nil
 | x :: r,hn,hp => by
  have h1 := List.pairwise_cons.1 hn
  have h2 := List.pairwise_cons.1 hp
  refine List.pairwise_cons.2 ⟨fun y hy => ?_,pw_strict tot r h1.2 h2.2⟩
  apply Classical.byContradiction; intro hh
  exact h1.1 y hy (tot x y hh (h2.1 y hy))
def ltP (x y : Int × Int) : Prop := x.1 < y.1 ∨ (x.1 = y.1 ∧ x.2 < y.2)
theorem ltP_irr (x : Int × Int) : ¬ltP x x := by unfold ltP; omega
theorem ltP_trans (x y z : Int × Int) (h1 : ltP x y) (h2 : ltP y z) : ltP x z := by unfold ltP at *; omega
theorem ltP_tot (x y : Int × Int) (h1 : ¬ltP x y) (h2 : ¬ltP y x) : x = y := by
 unfold ltP at *
 obtain ⟨a,b⟩ := x; obtain ⟨c,d⟩ := y
 simp only [Prod.mk.injEq]
 dsimp only at *
 omega
def idxL (n : Nat) : List (Int × Int) := (List.range n).flatMap fun (a : Nat) => (List.range n).map fun (b : Nat) => ((a : Int),(b : Int))
theorem mem_idxL {n : Nat} {x : Int × Int} : x ∈ idxL n ↔ (0 ≤ x.1 ∧ x.1 < n) ∧ (0 ≤ x.2 ∧ x.2 < n) := by
 unfold idxL
 simp only [List.mem_flatMap,List.mem_map,List.mem_range]
 constructor
 ·rintro ⟨a,ha,b,hb,rfl⟩
  dsimp only; omega
 ·rintro ⟨⟨h1,h2⟩,h3,h4⟩
  refine ⟨x.1.toNat,by omega,x.2.toNat,by omega,?_⟩
  obtain ⟨a,b⟩ := x
  simp only [Prod.mk.injEq]
  dsimp only at *
  omega
theorem idxL_sorted (n : Nat) : (idxL n).Pairwise ltP := by
 unfold idxL
 rw [List.pairwise_flatMap]
 constructor
 ·intro a _
  rw [List.pairwise_map]
  refine List.Pairwise.imp ?_ (List.pairwise_lt_range (n := n))
  intro x y h
  unfold ltP; dsimp only; omega
 ·refine List.Pairwise.imp ?_ (List.pairwise_lt_range (n := n))
  intro x y h u hu v hv
  obtain ⟨b,_,rfl⟩ := List.mem_map.1 hu
  obtain ⟨d,_,rfl⟩ := List.mem_map.1 hv
  unfold ltP; dsimp only; omega
theorem ltP_nodup {l : List (Int × Int)} (h : l.Pairwise ltP) : l.Nodup := by
 refine List.Pairwise.imp ?_ h
 rintro a b hlt rfl
 exact ltP_irr _ hlt
abbrev Tri3 := Int × Int × Int
def ltT (x y : Tri3) : Prop := x.1 < y.1 ∨ (x.1 = y.1 ∧ (x.2.1 < y.2.1 ∨ (x.2.1 = y.2.1 ∧ x.2.2 < y.2.2)))
theorem ltT_irr (x : Tri3) : ¬ltT x x := by unfold ltT; omega
theorem ltT_trans (x y z : Tri3) (h1 : ltT x y) (h2 : ltT y z) : ltT x z := by unfold ltT at *; omega
theorem ltT_tot (x y : Tri3) (h1 : ¬ltT x y) (h2 : ¬ltT y x) : x = y := by
 unfold ltT at *
 obtain ⟨a,b,c⟩ := x; obtain ⟨d,e,f⟩ := y
 simp only [Prod.mk.injEq]
 dsimp only at *
 omega
def leadB (ap : Int → Int → Option Int) (x : Int × Int) : Bool :=
 match ap x.1 x.2 with
 | some c => decide (x.1 < x.2) && decide (x.1 < c)
 | none => false
def triOf (ap : Int → Int → Option Int) (x : Int × Int) : Tri3 := (x.1,x.2,(ap x.1 x.2).getD 0)
def trisL (ap : Int → Int → Option Int) (n : Nat) : List Tri3 := ((idxL n).filter (leadB ap)).map (triOf ap)
def inB (ap : Int → Int → Option Int) (x : Int × Int) : Bool := (ap x.1 x.2).isSome
def dirL (ap : Int → Int → Option Int) (n : Nat) : List (Int × Int) := (idxL n).filter (inB ap)
def bordB (ap : Int → Int → Option Int) (x : Int × Int) : Bool := inB ap x && !inB ap (x.2,x.1)
def bordL (ap : Int → Int → Option Int) (n : Nat) : List (Int × Int) := (idxL n).filter (bordB ap)
def edgeB (ap : Int → Int → Option Int) (x : Int × Int) : Bool := decide (x.1 < x.2) && (inB ap x || inB ap (x.2,x.1))
def edgeL (ap : Int → Int → Option Int) (n : Nat) : List (Int × Int) := (idxL n).filter (edgeB ap)
theorem bordL_sorted (ap : Int → Int → Option Int) (n : Nat) : (bordL ap n).Pairwise ltP := (idxL_sorted n).filter _
theorem edgeL_sorted (ap : Int → Int → Option Int) (n : Nat) : (edgeL ap n).Pairwise ltP := (idxL_sorted n).filter _
theorem trisL_sorted (ap : Int → Int → Option Int) (n : Nat) : (trisL ap n).Pairwise ltT := by
 unfold trisL
 rw [List.pairwise_map]
 refine List.Pairwise.imp ?_ ((idxL_sorted n).filter (leadB ap))
 intro x y h
 unfold ltP at h; unfold ltT triOf; dsimp only; omega
def Within (ap : Int → Int → Option Int) (n : Nat) : Prop := ∀ a b,ap a b ≠ none → (0 ≤ a ∧ a < n) ∧ (0 ≤ b ∧ b < n)
theorem mem_bordL {ap : Int → Int → Option Int} {n : Nat} (h : Within ap n) (x : Int × Int) : x ∈ bordL ap n ↔ bordB ap x = true := by
 unfold bordL
 rw [List.mem_filter,mem_idxL]
 refine ⟨fun e => e.2,fun e => ⟨h x.1 x.2 ?_,e⟩⟩
 intro en
 unfold bordB inB at e
 rw [en] at e; simp at e
theorem mem_edgeL {ap : Int → Int → Option Int} {n : Nat} (h : Within ap n) (x : Int × Int) : x ∈ edgeL ap n ↔ edgeB ap x = true := by
 unfold edgeL
 rw [List.mem_filter,mem_idxL]
 refine ⟨fun e => e.2,fun e => ⟨?_,e⟩⟩
 unfold edgeB inB at e
 simp only [Bool.and_eq_true,Bool.or_eq_true,decide_eq_true_eq] at e
 rcases e.2 with e1 | e1
 ·exact h x.1 x.2 (fun en => by rw [en] at e1; simp at e1)
 ·have := h x.2 x.1 (fun en => by rw [en] at e1; simp at e1)
  exact ⟨this.2,this.1⟩
theorem mem_trisL {ap : Int → Int → Option Int} {n : Nat} (h : Within ap n) (x : Tri3) : x ∈ trisL ap n ↔ ap x.1 x.2.1 = some x.2.2 ∧ x.1 < x.2.1 ∧ x.1 < x.2.2 := by
 unfold trisL
 simp only [List.mem_map,List.mem_filter,mem_idxL]
 constructor
 ·rintro ⟨y,⟨_,hy⟩,rfl⟩
  unfold leadB at hy
  unfold triOf
  dsimp only
  cases e : ap y.1 y.2 with
  | none => rw [e] at hy; simp at hy
  | some c => rw [e] at hy; simp at hy; exact ⟨rfl,hy.1,hy.2⟩
 ·rintro ⟨h1,h2,h3⟩
  refine ⟨(x.1,x.2.1),⟨h _ _ (by rw [h1]; simp),?_⟩,?_⟩
  ·unfold leadB; dsimp only; rw [h1]; simp; exact ⟨h2,h3⟩
  ·unfold triOf; dsimp only; rw [h1]; rfl
structure Rot (ap : Int → Int → Option Int) : Prop where
 rot : ∀ a b c,ap a b = some c → ap b c = some a
 ne : ∀ a b c,ap a b = some c → a ≠ b ∧ b ≠ c ∧ a ≠ c
def sw (x : Int × Int) : Int × Int := (x.2,x.1)
theorem countP_same {α : Type} {p q : α → Bool} : ∀ (l : List α),(∀ x,x ∈ l → p x = q x) → l.countP p = l.countP q
 | [],_ => rfl
 | x :: l,h => by
  have ih := countP_same l fun y hy => h y (List.mem_cons_of_mem _ hy)
  have hx := h x (List.mem_cons_self ..)
  simp only [List.countP_cons,ih,hx]
theorem dir_count (ap : Int → Int → Option Int) (n : Nat) : (dirL ap n).length = (idxL n).countP (inB ap) := by unfold dirL; rw [List.countP_eq_length_filter]
theorem lead_in {ap : Int → Int → Option Int} {x : Int × Int} (h : leadB ap x = true) : inB ap x = true := by
 unfold leadB at h; unfold inB
 split at h
 ·rename_i e; rw [e]; rfl
 ·cases h
open Tvf
theorem det_rot (a b c : Pt) : det a b c = det b c a := by
 unfold det
 generalize fval a.1 = ax; generalize fval a.2 = ay; generalize fval b.1 = bx; generalize fval b.2 = by'; generalize fval c.1 = cx; generalize fval c.2 = cy
 grind
theorem det_twin (a b : Pt) : det a a b = 0 := by
 unfold det
 simp
theorem signI_rot (a b c : Pt) : signI a b c = signI b c a := by
 unfold signI
 rw [det_rot]
 cases h1 : ptOK a <;> cases h2 : ptOK b <;> cases h3 : ptOK c <;> simp [h1,h2,h3]
theorem signI_twin (a b : Pt) : signI a a b = 0 := by
 unfold signI
 rw [det_twin]
 split <;> rfl
theorem signM_rot (M : MeshM) (a b c : Nat) : signM M a b c = signM M b c a := signI_rot _ _ _
theorem signM_ne {M : MeshM} {a b c : Nat} (h : 0 < signM M a b c) : a ≠ b ∧ b ≠ c ∧ a ≠ c := by
 have z : ∀ x y : Nat,signM M x x y = 0 := fun x y => signI_twin _ _
 refine ⟨fun e => ?_,fun e => ?_,fun e => ?_⟩
 ·subst e; rw [z] at h; omega
 ·subst e; rw [signM_rot,z] at h; omega
 ·subst e; rw [signM_rot,signM_rot,z] at h; omega
structure Sound (M : MeshM) : Prop where
 rot : Rot M.ap
 win : Within M.ap M.P.length
 sgn : ∀ a b c,M.ap a b = some c → 0 < signM M a.toNat b.toNat c.toNat
 cnt : 3 * M.cnt = (dirL M.ap M.P.length).length
 sp : ∀ a b,b ∈ M.sp a ↔ M.ap a b ≠ none
theorem Sound.within3 {M : MeshM} (h : Sound M) {a b c : Int} (e : M.ap a b = some c) : (0 ≤ a ∧ a < M.P.length) ∧ (0 ≤ b ∧ b < M.P.length) ∧ (0 ≤ c ∧ c < M.P.length) := by
 have h1 := h.win a b (by rw [e]; simp)
 have h2 := h.win b c (by rw [h.rot.rot _ _ _ e]; simp)
 exact ⟨h1.1,h1.2,h2.2⟩
theorem emptyM_sound (l : List Pt) : Sound (emptyM l) := by
 refine ⟨⟨fun _ _ _ h => (nomatch h),fun _ _ _ h => (nomatch h)⟩,fun _ _ h => absurd rfl h,fun _ _ _ h => (nomatch h),?_,fun a b => ?_⟩
 ·have : (idxL l.length).countP (inB (emptyM l).ap) = 0 := List.countP_eq_zero.2 fun x _ => by simp [inB,emptyM]
  rw [dir_count,show (emptyM l).P = l from rfl,this]; rfl
 ·simp [emptyM]
theorem countP_upd {α : Type} {p q : α → Bool} {x : α} : ∀ (l : List α),l.Nodup → x ∈ l → (∀ y,y ≠ x → q y = p y) → p x = false → q x = true → l.countP q = l.countP p + 1
 | [],_,hx,_,_,_ => absurd hx (by simp)
 | y :: l,hn,hx,ho,hp,hq => by
  have hn' := List.pairwise_cons.1 hn
  by_cases e : x = y
  ·subst e
   have : l.countP q = l.countP p := countP_same l fun z hz => ho z fun e => hn'.1 z hz e.symm
   simp only [List.countP_cons,hp,hq,this]; simp
  ·have ih := countP_upd l hn'.2 ((List.mem_cons.1 hx).resolve_left e) ho hp hq
   have := ho y (Ne.symm e)
   simp only [List.countP_cons,ih,this]
   omega
theorem dir_up {ap : Int → Int → Option Int} {n : Nat} {a b c : Int} (ha : 0 ≤ a ∧ a < n) (hb : 0 ≤ b ∧ b < n) (h : ap a b = none) : (dirL (upE ap a b c) n).length = (dirL ap n).length + 1 := by
 rw [dir_count,dir_count]
 refine countP_upd (x := (a,b)) _ (ltP_nodup (idxL_sorted n)) (mem_idxL.2 ⟨ha,hb⟩) (fun y hy => ?_) ?_ ?_
 ·unfold inB upE
  rw [if_neg]
  rintro ⟨e1,e2⟩
  exact hy (by obtain ⟨u,v⟩ := y; dsimp only at e1 e2; rw [e1,e2])
 ·unfold inB; dsimp only; rw [h]; rfl
 ·unfold inB upE; simp
theorem dir_del {ap : Int → Int → Option Int} {n : Nat} {a b : Int} (ha : 0 ≤ a ∧ a < n) (hb : 0 ≤ b ∧ b < n) (h : ap a b ≠ none) : (dirL ap n).length = (dirL (delE ap a b) n).length + 1 := by
 rw [dir_count,dir_count]
 refine countP_upd (x := (a,b)) _ (ltP_nodup (idxL_sorted n)) (mem_idxL.2 ⟨ha,hb⟩) (fun y hy => ?_) ?_ ?_
 ·unfold inB delE
  rw [if_neg]
  rintro ⟨e1,e2⟩
  exact hy (by obtain ⟨u,v⟩ := y; dsimp only at e1 e2; rw [e1,e2])
 ·unfold inB delE; simp
 ·unfold inB; dsimp only; cases e : ap a b
  ·exact absurd e h
  ·rfl
def up3 (ap : Int → Int → Option Int) (a b c : Int) : Int → Int → Option Int := upE (upE (upE ap a b c) b c a) c a b
def del3 (ap : Int → Int → Option Int) (a b c : Int) : Int → Int → Option Int := delE (delE (delE ap a b) b c) c a
theorem up3_some {ap : Int → Int → Option Int} {a b c x y z : Int} (h0 : ap a b = none) (h1 : ap b c = none) (h2 : ap c a = none) (hne : a ≠ b ∧ b ≠ c ∧ a ≠ c) :
  up3 ap a b c x y = some z ↔ ap x y = some z ∨ (x = a ∧ y = b ∧ z = c) ∨ (x = b ∧ y = c ∧ z = a) ∨ (x = c ∧ y = a ∧ z = b) := by
 unfold up3 upE
 by_cases q1 : x = c ∧ y = a
 ·rw [if_pos q1]; obtain ⟨rfl,rfl⟩ := q1
  rw [h2]; simp only [Option.some.injEq,reduceCtorEq,false_or,true_and]
  constructor <;> intro h <;> omega
 ·rw [if_neg q1]
  by_cases q2 : x = b ∧ y = c
  ·rw [if_pos q2]; obtain ⟨rfl,rfl⟩ := q2
   rw [h1]; simp only [Option.some.injEq,reduceCtorEq,false_or,true_and]
   constructor <;> intro h <;> omega
  ·rw [if_neg q2]
   by_cases q3 : x = a ∧ y = b
   ·rw [if_pos q3]; obtain ⟨rfl,rfl⟩ := q3
    rw [h0]; simp only [Option.some.injEq,reduceCtorEq,false_or,true_and]
    constructor <;> intro h <;> omega
   ·rw [if_neg q3]
    constructor
    ·exact .inl
    ·rintro (e | ⟨e1,e2,_⟩ | ⟨e1,e2,_⟩ | ⟨e1,e2,_⟩)
     ·exact e
     ·exact absurd ⟨e1,e2⟩ q3
     ·exact absurd ⟨e1,e2⟩ q2
     ·exact absurd ⟨e1,e2⟩ q1
theorem del3_some {ap : Int → Int → Option Int} {a b c x y z : Int} :
  del3 ap a b c x y = some z ↔ ap x y = some z ∧ ¬(x = a ∧ y = b) ∧ ¬(x = b ∧ y = c) ∧ ¬(x = c ∧ y = a) := by
 unfold del3 delE
 by_cases q1 : x = c ∧ y = a
 ·rw [if_pos q1]; simp [q1]
 ·rw [if_neg q1]
  by_cases q2 : x = b ∧ y = c
  ·rw [if_pos q2]; simp [q2]
  ·rw [if_neg q2]
   by_cases q3 : x = a ∧ y = b
   ·rw [if_pos q3]; simp [q3]
   ·rw [if_neg q3]
    exact ⟨fun e => ⟨e,q3,q2,q1⟩,fun e => e.1⟩
theorem opt_ext {f g : Int → Int → Option Int} (h : ∀ x y z,f x y = some z ↔ g x y = some z) : f = g := by
 funext x y
 cases e : f x y with
 | none =>
  cases e' : g x y with
  | none => rfl
  | some z => rw [(h x y z).2 e'] at e; cases e
 | some z => exact ((h x y z).1 e).symm
theorem makeM_ap (M : MeshM) (a b c : Int) : (makeM M a b c).ap = up3 M.ap a b c := rfl
theorem makeM_P (M : MeshM) (a b c : Int) : (makeM M a b c).P = M.P := rfl
theorem makeCode_ok {M : MeshM} {a b c : Int} (h : makeCode M a b c = 0) :
  ((0 ≤ a ∧ a < M.P.length) ∧ (0 ≤ b ∧ b < M.P.length) ∧ (0 ≤ c ∧ c < M.P.length)) ∧ 0 < signM M a.toNat b.toNat c.toNat ∧ M.ap a b = none ∧ M.ap b c = none ∧ M.ap c a = none := by
 unfold makeCode at h
 split at h
 ·cases h
 ·rename_i h1
  split at h
  · cases h
  · rename_i h2
    split at h
    ·cases h
    ·rename_i h3
     unfold takenB at h3
     unfold hasM at h1
     simp only [Bool.and_eq_true,decide_eq_true_eq,Bool.not_eq_false,Bool.or_eq_true,not_or,Bool.not_eq_true,Option.isSome_eq_false_iff,Option.isNone_iff_eq_none] at h1 h3
     exact ⟨⟨h1.1.1,h1.1.2,h1.2⟩,by omega,h3.1.1,h3.1.2,h3.2⟩
theorem makeCode_of {M : MeshM} {a b c : Int} (h1 : (0 ≤ a ∧ a < M.P.length) ∧ (0 ≤ b ∧ b < M.P.length) ∧ (0 ≤ c ∧ c < M.P.length)) (h2 : 0 < signM M a.toNat b.toNat c.toNat) (h3 : M.ap a b = none ∧ M.ap b c = none ∧ M.ap c a = none) : makeCode M a b c = 0 := by
 unfold makeCode
 rw [if_neg,if_neg,if_neg]
 ·unfold takenB; rw [h3.1,h3.2.1,h3.2.2]; simp
 ·omega
 ·unfold hasM; simp; omega
theorem mem_upI {f : Int → List Int} {a x y : Int} {l : List Int} : y ∈ upI f a l x ↔ (x = a ∧ y ∈ l) ∨ (x ≠ a ∧ y ∈ f x) := by
 unfold upI
 split
 ·rename_i e; simp [e]
 ·rename_i e; simp [e]
theorem up_ne_none {ap : Int → Int → Option Int} {a b c x y : Int} : upE ap a b c x y ≠ none ↔ (x = a ∧ y = b) ∨ ap x y ≠ none := by
 unfold upE
 split
 ·rename_i e; simp [e]
 ·rename_i e; simp [e]
theorem sp_up {ap : Int → Int → Option Int} {sp : Int → List Int} (h : ∀ x y,y ∈ sp x ↔ ap x y ≠ none) (a b c : Int) : ∀ x y,y ∈ upI sp a (sp a ++ [b]) x ↔ upE ap a b c x y ≠ none := by
 intro x y
 rw [mem_upI,up_ne_none,List.mem_append,List.mem_singleton]
 constructor
 ·rintro (⟨rfl,e | e⟩ | ⟨_,e⟩)
  ·exact .inr ((h _ _).1 e)
  ·exact .inl ⟨rfl,e⟩
  ·exact .inr ((h _ _).1 e)
 ·rintro (⟨e1,e2⟩ | e)
  ·exact .inl ⟨e1,.inr e2⟩
  ·by_cases q : x = a
   ·subst q; exact .inl ⟨rfl,.inl ((h _ _).2 e)⟩
   ·exact .inr ⟨q,(h _ _).2 e⟩
theorem sgn_toNat {M : MeshM} {a b c : Int} (h : 0 < signM M a.toNat b.toNat c.toNat) (h0 : 0 ≤ a ∧ 0 ≤ b ∧ 0 ≤ c) : a ≠ b ∧ b ≠ c ∧ a ≠ c := by
 have := signM_ne h
 omega
theorem makeR_sound {M : MeshM} (h : Sound M) (a b c : Int) : Sound (makeR M a b c) := by
 unfold makeR
 split
 ·rename_i hc
  obtain ⟨⟨ra,rb,rc⟩,hs,h0,h1,h2⟩ := makeCode_ok hc
  have hne := sgn_toNat hs ⟨ra.1,rb.1,rc.1⟩
  have hs2 : 0 < signM M b.toNat c.toNat a.toNat := by rw [<- signM_rot]; exact hs
  have hs3 : 0 < signM M c.toNat a.toNat b.toNat := by rw [<- signM_rot]; exact hs2
  have S := fun x y z => up3_some (x := x) (y := y) (z := z) h0 h1 h2 hne
  refine ⟨⟨fun x y z e => ?_,fun x y z e => ?_⟩,fun x y e => ?_,fun x y z e => ?_,?_,?_⟩
  ·rw [makeM_ap,S] at e ⊢
   rcases e with e | ⟨rfl,rfl,rfl⟩ | ⟨rfl,rfl,rfl⟩ | ⟨rfl,rfl,rfl⟩
   ·exact .inl (h.rot.rot _ _ _ e)
   ·exact .inr (.inr (.inl ⟨rfl,rfl,rfl⟩))
   ·exact .inr (.inr (.inr ⟨rfl,rfl,rfl⟩))
   ·exact .inr (.inl ⟨rfl,rfl,rfl⟩)
  ·rw [makeM_ap,S] at e
   rcases e with e | ⟨rfl,rfl,rfl⟩ | ⟨rfl,rfl,rfl⟩ | ⟨rfl,rfl,rfl⟩
   ·exact h.rot.ne _ _ _ e
   ·exact hne
   ·exact ⟨hne.2.1,Ne.symm hne.2.2,Ne.symm hne.1⟩
   ·exact ⟨Ne.symm hne.2.2,hne.1,Ne.symm hne.2.1⟩
  ·obtain ⟨z,e⟩ := Option.ne_none_iff_exists'.1 e
   rw [makeM_ap,S] at e
   rw [makeM_P]
   rcases e with e | ⟨rfl,rfl,rfl⟩ | ⟨rfl,rfl,rfl⟩ | ⟨rfl,rfl,rfl⟩
   ·exact h.win _ _ (by rw [e]; simp)
   ·exact ⟨ra,rb⟩
   ·exact ⟨rb,rc⟩
   ·exact ⟨rc,ra⟩
  ·rw [makeM_ap,S] at e
   show 0 < signM M x.toNat y.toNat z.toNat
   rcases e with e | ⟨rfl,rfl,rfl⟩ | ⟨rfl,rfl,rfl⟩ | ⟨rfl,rfl,rfl⟩
   ·exact h.sgn _ _ _ e
   ·exact hs
   ·exact hs2
   ·exact hs3
  ·rw [makeM_ap,makeM_P]
   show 3 * (M.cnt + 1) = _
   unfold up3
   rw [dir_up rc ra,dir_up rb rc,dir_up ra rb h0]
   ·have := h.cnt; omega
   ·unfold upE; rw [if_neg (by intro e; exact hne.1 e.1.symm)]; exact h1
   ·unfold upE; rw [if_neg (by intro e; exact hne.2.1 e.1.symm),if_neg (by intro e; exact hne.2.2 e.1.symm)]; exact h2
  ·exact sp_up (sp_up (sp_up h.sp a b c) b c a) c a b
 ·exact h
end Go.Proofs.YtbagikgpgdlkcaaGreatDoor
namespace Go.Proofs.YtbagikgpgdlkcaaGreatDoor
def inT (t : Tri3) (x y z : Int) : Prop := (x = t.1 ∧ y = t.2.1 ∧ z = t.2.2) ∨ (x = t.2.1 ∧ y = t.2.2 ∧ z = t.1) ∨ (x = t.2.2 ∧ y = t.1 ∧ z = t.2.1)
def foldM (M : MeshM) (l : List Tri3) : MeshM := l.foldl (fun M t => makeR M t.1 t.2.1 t.2.2) M
theorem foldM_nil (M : MeshM) : foldM M [] = M := rfl
theorem foldM_cons (M : MeshM) (t : Tri3) (l : List Tri3) : foldM M (t :: l) = foldM (makeR M t.1 t.2.1 t.2.2) l := rfl
theorem foldM_snoc (M : MeshM) (t : Tri3) (l : List Tri3) : foldM M (l ++ [t]) = makeR (foldM M l) t.1 t.2.1 t.2.2 := by unfold foldM; rw [List.foldl_append]; rfl
theorem makeR_P (M : MeshM) (a b c : Int) : (makeR M a b c).P = M.P := by unfold makeR; split <;> rfl
theorem foldM_P (l : List Tri3) : ∀ M : MeshM,(foldM M l).P = M.P := by
 induction l with
 | nil => exact fun _ => rfl
 | cons t l ih => intro M; rw [foldM_cons,ih,makeR_P]
def allOk : MeshM → List Tri3 → Prop
 | _,[] => True
 | M,t :: r => makeCode M t.1 t.2.1 t.2.2 = 0 ∧ allOk (makeR M t.1 t.2.1 t.2.2) r
theorem allOk_at : ∀ (l : List Tri3) (M : MeshM),allOk M l → ∀ k,(hk : k < l.length) → makeCode (foldM M (l.take k)) l[k].1 l[k].2.1 l[k].2.2 = 0
 | [],_,_,k,hk => absurd hk (by simp)
 | t :: r,M,h,0,_ => h.1
 | t :: r,M,h,k + 1,hk => by
  have := allOk_at r _ h.2 k (by simpa using hk)
  exact this
theorem rot_in {ap : Int → Int → Option Int} (hr : Rot ap) {t : Tri3} (h : ap t.1 t.2.1 = some t.2.2) {x y z : Int} (hi : inT t x y z) : ap x y = some z := by
 have h1 := hr.rot _ _ _ h
 have h2 := hr.rot _ _ _ h1
 rcases hi with ⟨rfl,rfl,rfl⟩ | ⟨rfl,rfl,rfl⟩ | ⟨rfl,rfl,rfl⟩ <;> assumption
theorem signM_P {M M' : MeshM} (h : M'.P = M.P) (a b c : Nat) : signM M' a b c = signM M a b c := by unfold signM; rw [h]
theorem again {M : MeshM} (h : Sound M) : ∀ (l done : List Tri3) (M0 : MeshM),M0.P = M.P → (∀ x y z,M0.ap x y = some z ↔ ∃ t,t ∈ done ∧ inT t x y z) → (∀ t,t ∈ done ++ l → M.ap t.1 t.2.1 = some t.2.2) →
  (done ++ l).Pairwise (fun t u => ∀ x y z,¬(inT t x y z ∧ inT u x y z)) → allOk M0 l ∧ ∀ x y z,(foldM M0 l).ap x y = some z ↔ ∃ t,t ∈ done ++ l ∧ inT t x y z
 | [],done,M0,_,hd,_,_ => ⟨trivial,fun x y z => by rw [foldM_nil,List.append_nil]; exact hd x y z⟩
 | t :: r,done,M0,hP,hd,hin,hp => by
  have ht := hin t (by simp)
  have hw := h.within3 ht
  have hs := h.sgn _ _ _ ht
  have hpa := List.pairwise_append.1 hp
  have free : ∀ x y z,inT t x y z → M0.ap x y = none := by
   intro x y z hi
   cases e : M0.ap x y with
   | none => rfl
   | some v =>
    obtain ⟨u,hu,hui⟩ := (hd x y v).1 e
    have e1 := rot_in h.rot (hin u (by simp [hu])) hui
    have e2 := rot_in h.rot ht hi
    rw [e1] at e2; cases e2
    exact absurd ⟨hui,hi⟩ (hpa.2.2 u hu t (by simp) x y _)
  have f0 := free t.1 t.2.1 t.2.2 (.inl ⟨rfl,rfl,rfl⟩)
  have f1 := free t.2.1 t.2.2 t.1 (.inr (.inl ⟨rfl,rfl,rfl⟩))
  have f2 := free t.2.2 t.1 t.2.1 (.inr (.inr ⟨rfl,rfl,rfl⟩))
  have hc : makeCode M0 t.1 t.2.1 t.2.2 = 0 := makeCode_of (by rw [hP]; exact hw) (by rw [signM_P hP]; exact hs) ⟨f0,f1,f2⟩
  have hR : makeR M0 t.1 t.2.1 t.2.2 = makeM M0 t.1 t.2.1 t.2.2 := by unfold makeR; rw [if_pos hc]
  have happ : done ++ t :: r = (done ++ [t]) ++ r := by simp
  have ih := again h r (done ++ [t]) (makeR M0 t.1 t.2.1 t.2.2) (by rw [makeR_P]; exact hP) (fun x y z => by
   rw [hR,makeM_ap,up3_some f0 f1 f2 (h.rot.ne _ _ _ ht),hd]
   constructor
   ·rintro (⟨u,hu,hui⟩ | e)
    ·exact ⟨u,by simp [hu],hui⟩
    ·exact ⟨t,by simp,e⟩
   ·rintro ⟨u,hu,hui⟩
    rcases List.mem_append.1 hu with hu | hu
    ·exact .inl ⟨u,hu,hui⟩
    ·rw [List.mem_singleton] at hu; subst hu; exact .inr hui) (by rw [<- happ]; exact hin) (by rw [<- happ]; exact hp)
  rw [foldM_cons,happ]
  exact ⟨⟨hc,ih.1⟩,ih.2⟩
theorem canon_eq {t u : Tri3} (ht : t.1 < t.2.1 ∧ t.1 < t.2.2) (hu : u.1 < u.2.1 ∧ u.1 < u.2.2) {x y z : Int} (h : inT t x y z) (k : inT u x y z) : t = u := by
 unfold inT at *
 obtain ⟨a,b,c⟩ := t; obtain ⟨d,e,f⟩ := u
 simp only [Prod.mk.injEq]
 dsimp only at *
 omega
theorem getD_mem3 {l : List Tri3} {k : Nat} (h : k < l.length) : l.getD k (0,0,0) ∈ l := by
 rw [List.getD_eq_getElem?_getD,List.getElem?_eq_getElem h]; exact List.getElem_mem h
def dropE (M : MeshM) (a b : Int) : MeshM := { M with ap := delE M.ap a b,sp := upI M.sp a ((M.sp a).filter fun x => !decide (x = b)) }
def killM (M : MeshM) (a b c : Int) : MeshM := { dropE (dropE (dropE M a b) b c) c a with cnt := M.cnt - 1 }
def killCode (M : MeshM) (a b c : Int) : Int := if M.ap a b = some c then 0 else 5
def killR (M : MeshM) (a b c : Int) : MeshM := if M.ap a b = some c then killM M a b c else M
theorem killM_ap (M : MeshM) (a b c : Int) : (killM M a b c).ap = del3 M.ap a b c := rfl
theorem killM_P (M : MeshM) (a b c : Int) : (killM M a b c).P = M.P := rfl
theorem killR_P (M : MeshM) (a b c : Int) : (killR M a b c).P = M.P := by unfold killR; split <;> rfl
theorem del_ne_none {ap : Int → Int → Option Int} {a b x y : Int} : delE ap a b x y ≠ none ↔ ¬(x = a ∧ y = b) ∧ ap x y ≠ none := by
 unfold delE
 split
 ·rename_i e; simp [e]
 ·rename_i e; simp [e]
theorem sp_del {ap : Int → Int → Option Int} {sp : Int → List Int} (h : ∀ x y,y ∈ sp x ↔ ap x y ≠ none) (a b : Int) : ∀ x y,y ∈ upI sp a ((sp a).filter fun x => !decide (x = b)) x ↔ delE ap a b x y ≠ none := by
 intro x y
 rw [mem_upI,del_ne_none,List.mem_filter]
 simp only [Bool.not_eq_true', decide_eq_false_iff_not]
 constructor
 ·rintro (⟨rfl,e,k⟩ | ⟨k,e⟩)
  ·exact ⟨fun q => k q.2,(h _ _).1 e⟩
  ·exact ⟨fun q => k q.1,(h _ _).1 e⟩
 ·rintro ⟨k,e⟩
  by_cases q : x = a
  ·subst q; exact .inl ⟨rfl,(h _ _).2 e,fun e => k ⟨rfl,e⟩⟩
  ·exact .inr ⟨q,(h _ _).2 e⟩
theorem killM_sound {M : MeshM} (h : Sound M) {a b c : Int} (e : M.ap a b = some c) : Sound (killM M a b c) := by
 have e1 := h.rot.rot _ _ _ e
 have e2 := h.rot.rot _ _ _ e1
 have hn := h.rot.ne _ _ _ e
 have hw := h.within3 e
 refine ⟨⟨fun x y z k => ?_,fun x y z k => ?_⟩,fun x y k => ?_,fun x y z k => ?_,?_,?_⟩
 ·rw [killM_ap,del3_some] at k ⊢
  have k1 := h.rot.rot _ _ _ k.1
  have k2 := h.rot.rot _ _ _ k1
  refine ⟨k1,?_,?_,?_⟩ <;> rintro ⟨rfl,rfl⟩
  ·rw [e] at k1; cases k1; exact k.2.2.2 ⟨rfl,rfl⟩
  ·rw [e1] at k1; cases k1; exact k.2.1 ⟨rfl,rfl⟩
  ·rw [e2] at k1; cases k1; exact k.2.2.1 ⟨rfl,rfl⟩
 ·rw [killM_ap,del3_some] at k
  exact h.rot.ne _ _ _ k.1
 ·obtain ⟨z,k⟩ := Option.ne_none_iff_exists'.1 k
  rw [killM_ap,del3_some] at k
  exact h.win _ _ (by rw [k.1]; simp)
 ·rw [killM_ap,del3_some] at k
  exact h.sgn _ _ _ k.1
 ·rw [killM_ap,killM_P]
  show 3 * (M.cnt - 1) = _
  unfold del3
  have d1 := dir_del (n := M.P.length) hw.1 hw.2.1 (ap := M.ap) (by rw [e]; simp)
  have d2 := dir_del (n := M.P.length) hw.2.1 hw.2.2 (ap := delE M.ap a b) (by rw [del_ne_none,e1]; exact ⟨fun q => hn.1 q.1.symm,by simp⟩)
  have d3 := dir_del (n := M.P.length) hw.2.2 hw.1 (ap := delE (delE M.ap a b) b c) (by rw [del_ne_none,del_ne_none,e2]; exact ⟨fun q => hn.2.1 q.1.symm,fun q => hn.2.2 q.1.symm,by simp⟩)
  have := h.cnt
  omega
 ·exact sp_del (sp_del (sp_del h.sp a b) b c) c a
theorem killR_sound {M : MeshM} (h : Sound M) (a b c : Int) : Sound (killR M a b c) := by
 unfold killR
 split
 ·rename_i e; exact killM_sound h e
 ·exact h
end Go.Proofs.YtbagikgpgdlkcaaGreatDoor
