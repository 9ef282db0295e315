/- Part of the proof. No conditions. -/
import Derived.Test.YtbagikgpgdlkcaaGreatDoorZB
import Derived.Laws.EntriesVeiled
set_option linter.all false
set_option maxHeartbeats 8000000
set_option maxRecDepth 100000
namespace Go.Proofs.YtbagikgpgdlkcaaGreatDoor
open Go.RowKit Tvf
theorem nov_neg : ∀ (l : List Int) (p : Nat),nov p l → nov p (l.map fun z => -z)
 | [],_,_ => trivial
 | x :: r,p,h => by
  refine ⟨by have := h.1; show -x ≠ 0; omega,?_,?_⟩
  ·obtain ⟨k,h1,h2⟩ := h.2.1; exact ⟨k,h1,Int.dvd_neg.2 h2⟩
  ·rw [Int.natAbs_neg]; exact nov_neg r _ h.2.2
theorem map_fopp (l : List Nat) (h : ∀ x,x ∈ l → fin x) : (l.map fopp).map fval = (l.map fval).map fun z => -z := by
 rw [List.map_map,List.map_map]
 exact List.map_congr_left fun x hx => fopp_val (h x hx).1
structure Gd (l : List Nat) (S : Int) (B g : Nat) : Prop where
 exp : ExpFacts l S
 hi : S.natAbs ≤ 2 ^ (unitE + B)
 gr : ∀ x,x ∈ l → (2 : Int) ^ (unitE - g) ∣ fval x
section
variable {l e f : List Nat} {S T : Int} {B C g k : Nat}
theorem Gd.mem_hi (h : Gd l S B g) {x : Nat} (hx : x ∈ l) : (fval x).natAbs ≤ 2 ^ (unitE + B + 3) := by
 have h1 := absSum_mem (List.mem_map_of_mem (f := fval) hx)
 have h2 := h.exp.abs
 have h3 := h.hi
 rw [Nat.pow_add]
 generalize 2 ^ (unitE + B) = P at *
 omega
theorem Gd.mem_lo (h : Gd l S B g) {x : Nat} (hx : x ∈ l) : 2 ^ (unitE - g) ≤ (fval x).natAbs := by
 have h0 := h.exp.nz x hx
 have h1 := Int.natAbs_dvd_natAbs.2 (h.gr x hx)
 rw [natAbs_two_pow] at h1
 exact Nat.le_of_dvd (by omega) h1
theorem Gd.all (h : Gd l S B g) {a b : Nat} (ha : fin a) (hb : fin b) {p q : Nat} (hva : fval a = 2 ^ p) (hvb : fval b = 2 ^ q) (hp : p ≤ unitE - g) (hq : unitE + B + 3 ≤ q) : allB l a b = true := by
 refine all_true (allB_len h.exp.all) (good_of_nov l h.exp.fins 0 h.exp.novs _ _ ?_)
 intro x hx
 have hf := h.exp.fins x hx
 unfold withinB
 rw [fge_val (fin_abs hf) ha,fval_abs,fle_val (fin_abs hf) hb,fval_abs,hva,hvb]
 have h1 := Nat.le_trans (Nat.pow_le_pow_right (by decide : 1 ≤ 2) hp) (h.mem_lo hx)
 have h2 := Nat.le_trans (h.mem_hi hx) (Nat.pow_le_pow_right (by decide : 1 ≤ 2) hq)
 have d1 : decide ((2 : Int) ^ p ≤ ((fval x).natAbs : Int)) = true := by
  simp only [decide_eq_true_eq]
  have := Int.ofNat_le.2 h1
  simpa using this
 have d2 : decide (((fval x).natAbs : Int) ≤ (2 : Int) ^ q) = true := by
  simp only [decide_eq_true_eq]
  have := Int.ofNat_le.2 h2
  simpa using this
 rw [d1,d2]; rfl
theorem Gd.safe (h : Gd l S B g) (hB : B ≤ 440) (hg : g ≤ 450) : SafeL l :=
 ⟨h.exp.fins,h.all fin_m450 fin_p450 fval_m450 fval_p450 (by unfold unitE; omega) (by omega)⟩
theorem fin_p900 : fin 8660422083433463808 := by unfold fin; omega
theorem fval_p900 : fval 8660422083433463808 = 2 ^ (unitE + 900) := fval_pow (F := 1923) (by unfold fin; omega) (by omega) (by omega) (by omega) (by omega) rfl
theorem Gd.addable (h : Gd l S B g) (hB : B ≤ 890) : allB l 1 8660422083433463808 = true :=
 h.all fin_tiny fin_p900 (p := 0) fval_tiny fval_p900 (Nat.zero_le _) (by omega)
theorem Gd.check (h : Gd l S B g) (hB : B ≤ 980) : allB l 1 9065746049896808448 = true :=
 h.all fin_tiny (by unfold fin; omega) (p := 0) fval_tiny (fval_pow (F := 2013) (by unfold fin; omega) (by omega) (by omega) (by omega) (by omega) rfl : fval 9065746049896808448 = 2 ^ (unitE + 990)) (Nat.zero_le _) (by omega)
theorem Gd.len (h : Gd l S B g) : l.length ≤ 64 := allB_len h.exp.all
theorem Gd.abs (h : Gd l S B g) (hB : B ≤ 980) : absSum (l.map fval) ≤ 2 ^ capE * 64 := by
 have h2 := h.exp.abs
 have h3 := Nat.le_trans h.hi (Nat.pow_le_pow_right (by decide : 1 ≤ 2) (by unfold capE; omega : unitE + B ≤ capE))
 generalize 2 ^ capE = P at *
 omega
theorem Gd.neg (h : Gd l S B g) : Gd (l.map fopp) (-S) B g := by
 have hm := map_fopp l h.exp.fins
 have hfn : ∀ x,x ∈ l.map fopp → fin x := fun x hx => by
  obtain ⟨y,hy,rfl⟩ := List.mem_map.1 hx; exact fopp_fin (h.exp.fins y hy)
 obtain ⟨n1,n2⟩ := isum_neg l h.exp.fins
 have hn : nov 0 ((l.map fopp).map fval) := by rw [hm]; exact nov_neg _ _ h.exp.novs
 refine ⟨⟨hfn,?_,hn,by rw [n1,h.exp.sum],by rw [n2,Int.natAbs_neg]; exact h.exp.abs,?_⟩,by rw [Int.natAbs_neg]; exact h.hi,?_⟩
 ·intro x hx
  obtain ⟨y,hy,rfl⟩ := List.mem_map.1 hx
  rw [fopp_val (h.exp.fins y hy).1]
  have := h.exp.nz y hy
  omega
 ·refine all_true (by rw [List.length_map]; exact h.len) (good_of_nov _ hfn 0 hn _ _ fun x hx => ?_)
  obtain ⟨y,hy,rfl⟩ := List.mem_map.1 hx
  have hf := hfn _ hx
  unfold withinB
  rw [fle_inf (fin_abs hf),fge_val (fin_abs hf) fin_tiny,fval_tiny,fval_abs,fopp_val (h.exp.fins y hy).1,Int.natAbs_neg]
  have := h.exp.nz y hy
  have : decide ((1 : Int) ≤ ((fval y).natAbs : Int)) = true := by simp; omega
  rw [this]; rfl
 ·intro x hx
  obtain ⟨y,hy,rfl⟩ := List.mem_map.1 hx
  rw [fopp_val (h.exp.fins y hy).1]
  exact Int.dvd_neg.2 (h.gr y hy)
theorem Gd.plus (he : Gd e S B g) (hf : Gd f T B g) (hB : B ≤ 980) : Gd (plusW e f) (S + T) (B + 1) g := by
 have l1 := he.len
 have l2 := hf.len
 obtain ⟨_,h2,h3⟩ := plus_facts he.exp.fins hf.exp.fins (by omega) (by have := he.abs hB; have := hf.abs hB; generalize 2 ^ capE = P at *; omega)
 rw [he.exp.sum,hf.exp.sum] at h2
 refine ⟨h2,?_,h3 _ he.gr hf.gr⟩
 have h4 := he.hi
 have h5 := hf.hi
 rw [show unitE + (B + 1) = unitE + B + 1 from rfl,Nat.pow_succ]
 generalize 2 ^ (unitE + B) = P at *
 omega
theorem Gd.mono (h : Gd l S B g) {B' g' : Nat} (hB : B ≤ B') (hg : g ≤ g') : Gd l S B' g' :=
 ⟨h.exp,Nat.le_trans h.hi (Nat.pow_le_pow_right (by decide) (by omega)),fun x hx => Int.dvd_trans ⟨2 ^ (unitE - g - (unitE - g')),by rw [← Int.pow_add]; congr 1; omega⟩ (h.gr x hx)⟩
theorem Gd.mul (he : Gd e S B g) (hf : Gd f T C k) (hB : B ≤ 440) (hC : C ≤ 440) (hg : g ≤ 450) (hk : k ≤ 450) : ∃ R,Gd (mulW e f) R (B + C) (g + k) ∧ R * 2 ^ unitE = S * T := by
 obtain ⟨R,h1,h2,_,h4⟩ := mul_facts (he.safe hB hg) (hf.safe hC hk)
 rw [he.exp.sum,hf.exp.sum] at h2
 refine ⟨R,⟨h1,?_,?_⟩,h2⟩
 ·have h5 := congrArg Int.natAbs h2
  rw [Int.natAbs_mul,Int.natAbs_mul,natAbs_two_pow] at h5
  have h6 := Nat.mul_le_mul he.hi hf.hi
  rw [← h5,← Nat.pow_add,show unitE + B + (unitE + C) = unitE + (B + C) + unitE by omega,Nat.pow_add] at h6
  exact Nat.le_of_mul_le_mul_right h6 (Nat.pow_pos (by decide))
 ·refine h4 _ fun x hx y hy => ?_
  have := Int.mul_dvd_mul (he.gr x hx) (hf.gr y hy)
  rw [← Int.pow_add] at this
  rwa [show unitE - (g + k) + unitE = unitE - g + (unitE - k) by unfold unitE; omega]
end
noncomputable def ofW (x : Nat) : List Nat := if fval x = 0 then [] else [x]
theorem Gd.of {x : Nat} (h64 : x < 2 ^ 64) (h : coordB x = true) : Gd (ofW x) (fval x) 100 100 := by
 obtain ⟨h1,h2,h3,_⟩ := coord_tame h64 h
 unfold ofW
 by_cases h0 : fval x = 0
 ·rw [if_pos h0,h0]
  exact ⟨exp_nil,Nat.zero_le _,fun y hy => (nomatch hy)⟩
 ·rw [if_neg h0]
  have hm : ∀ y,y ∈ [x] → y = x := fun y hy => by simpa using hy
  have hn : nov 0 ([x].map fval) := ⟨h0,⟨0,by decide,Int.one_dvd _⟩,trivial⟩
  refine ⟨⟨fun y hy => hm y hy ▸ h1,fun y hy => hm y hy ▸ h0,hn,by simp [isum],by simp [absSum]; omega,?_⟩,h2,fun y hy => by rw [hm y hy]; exact h3⟩
  refine all_true (by simp) (good_of_nov _ (fun y hy => hm y hy ▸ h1) 0 hn _ _ fun y hy => ?_)
  rw [hm y hy]
  unfold withinB
  rw [fle_inf (fin_abs h1),fge_val (fin_abs h1) fin_tiny,fval_tiny,fval_abs]
  have : decide ((1 : Int) ≤ ((fval x).natAbs : Int)) = true := by simp; omega
  rw [this]; rfl
end Go.Proofs.YtbagikgpgdlkcaaGreatDoor
namespace Go.Proofs.YtbagikgpgdlkcaaGreatDoor
open Go.RowKit Tvf
def EV (w : World) (v : Value) (S : Int) (B g : Nat) : Prop := ∃ l,FSl w v l ∧ Gd l S B g
theorem EV.below {w w' : World} {v : Value} {S : Int} {B g : Nat} (h : EV w v S B g) (hb : Below w.heap.size w w') : EV w' v S B g := by
 obtain ⟨l,h1,h2⟩ := h; exact ⟨l,h1.below hb,h2⟩
theorem EV.drew {w : World} {v : Value} {S : Int} {B g : Nat} (h : EV w v S B g) : EV w.drew v S B g := h
theorem xof_walk (x : Nat) (h64 : x < 2 ^ 64) (h : coordB x = true) (w : World) :
  Calls Tryz.prog 113 #[.float .f64 x] w fun r w' => ∃ v', r = .returned (.tuple #[v', .bool true]) ∧ EV w' v' (fval x) 100 100 ∧ Below w.heap.size w w' := by
 have HG := Lib.hid (Gd.of h64 h)
 have hf := (coord_tame h64 h).1
 have H64 := Lib.hid h64
 by_cases h0 : fval x = 0
 ·have he : feq x 0 = true := by rw [feq_val hf (by unfold fin; omega),h0]; decide
  have HL : Hid (ofW x = []) := by unfold Hid ofW; rw [if_pos h0]
  clear h h0 hf h64
  go_enter Tryz.func113,Tryz.ntmps113
  go_wp2
  go_ret2
  have hg := HG.out
  rw [HL.out] at hg
  exact ⟨_,rfl,⟨[],⟨by simp,by simp,.inl ⟨rfl,rfl⟩⟩,hg⟩,Below.refl _ _⟩
 ·have he : feq x 0 = false := by
   rw [feq_val hf (by unfold fin; omega)]
   have : fval 0 = 0 := by decide
   rw [this]; simpa using h0
  have HL : Hid (ofW x = [x]) := by unfold Hid ofW; rw [if_neg h0]
  have hw : withinB x 1 9065746049896808448 = true := by
   have hg := HG.out
   rw [HL.out] at hg
   have h1 := Nat.le_trans (Nat.pow_le_pow_right (by decide : 1 ≤ 2) (Nat.zero_le _)) (hg.mem_lo (List.mem_singleton_self x))
   have h2 := Nat.le_trans (hg.mem_hi (List.mem_singleton_self x)) (Nat.pow_le_pow_right (by decide : 1 ≤ 2) (by omega : unitE + 100 + 3 ≤ unitE + 990))
   have hc : fin 9065746049896808448 := by unfold fin; omega
   have hv : fval 9065746049896808448 = 2 ^ (unitE + 990) := fval_pow (F := 2013) (by unfold fin; omega) (by omega) (by omega) (by omega) (by omega) rfl
   unfold withinB
   rw [fge_val (fin_abs hf) fin_tiny,fval_tiny,fval_abs,fle_val (fin_abs hf) hc,fval_abs,hv]
   have d1 : decide ((1 : Int) ≤ ((fval x).natAbs : Int)) = true := by simp; omega
   have d2 : decide (((fval x).natAbs : Int) ≤ (2 : Int) ^ (unitE + 990)) = true := by
    simp only [decide_eq_true_eq]
    have := Int.ofNat_le.2 h2
    simpa using this
   rw [d1,d2]; rfl
  have HWI := Lib.hid (fun w => within_any x 1 9065746049896808448 h64 w)
  rw [hw] at HWI
  clear h h0 hf h64 hw
  go_enter Tryz.func113,Tryz.ntmps113
  go_wp2_with (go_at_call 154; refine (HWI.out _).mono ?_; rintro e w1 ⟨rfl,rfl⟩)
  go_ret2
  have hg := HG.out
  rw [HL.out] at hg
  refine ⟨_,rfl,⟨[x],⟨by simp,fun y hy => by rw [List.mem_singleton.1 hy]; exact H64.out,.inr ⟨w.heap.size,0,1,rfl,by simp,fun i hi => ?_⟩⟩,hg⟩,(Below.refl _ _).alloc (Nat.le_refl _) _⟩
  have : i = 0 := by simpa using hi
  subst this
  rw [World.cell?_alloc_at _ _ _ _ rfl]; rfl
theorem xadd_walk {w : World} {ve vf : Value} {S T : Int} {B g : Nat} (he : EV w ve S B g) (hf : EV w vf T B g) (hB : B ≤ 880) :
  Calls Tryz.prog 115 #[ve,vf] w fun r w' => ∃ v', r = .returned (.tuple #[v', .bool true]) ∧ EV w' v' (S + T) (B + 1) g ∧ Below w.heap.size w w' := by
 obtain ⟨e,h1,g1⟩ := he
 obtain ⟨f,h2,g2⟩ := hf
 have HA := Lib.hid (all_walk e ve 1 8660422083433463808 fin_tiny (by rw [fval_tiny]; decide) g1.exp.fins w h1)
 have HB := Lib.hid (all_walk f vf 1 8660422083433463808 fin_tiny (by rw [fval_tiny]; decide) g2.exp.fins w h2)
 rw [g1.addable (by omega)] at HA
 rw [g2.addable (by omega)] at HB
 have HP := Lib.hid (plus_walk e f ve vf g1.exp.fins g2.exp.fins (by have := g1.len; have := g2.len; omega) (by have := g1.abs (by omega); have := g2.abs (by omega); generalize 2 ^ capE = P at *; omega) w h1 h2)
 have HG := Lib.hid (g1.plus g2 (by omega))
 clear h1 g1 h2 g2 hB
 go_enter Tryz.func115,Tryz.ntmps115
 go_wp2_with (first
  |(go_at_call 155; (first | (with_reducible refine (HA.out).mono ?_) | (with_reducible refine (HB.out).mono ?_)); rintro r w' ⟨rfl,rfl⟩)
  |(go_at_call 156; refine (HP.out).mono ?_; rintro r w2 ⟨v2,rfl,hf2,hb2⟩))
 go_ret2
 exact ⟨_,rfl,⟨_,hf2,HG.out⟩,hb2⟩
theorem cof_walk (x : Nat) (h64 : x < 2 ^ 64) (h : coordB x = true) (w : World) :
  Calls Tryz.prog 112 #[.float .f64 x] w fun r w' => ∃ v', r = .returned v' ∧ EV w' v' (fval x) 100 100 ∧ Below w.heap.size w w' := by
 have HX := Lib.hid (xof_walk x h64 h w)
 clear h h64
 go_enter Tryz.func112,Tryz.ntmps112
 go_wp2_with (go_at_call 113; refine (HX.out).mono ?_; rintro r w2 ⟨v2,rfl,hf2,hb2⟩)
 go_ret
 exact ⟨_,rfl,hf2,hb2⟩
theorem cadd_walk {w : World} {ve vf : Value} {S T : Int} {B g : Nat} (he : EV w ve S B g) (hf : EV w vf T B g) (hB : B ≤ 880) :
  Calls Tryz.prog 114 #[ve,vf] w fun r w' => ∃ v', r = .returned v' ∧ EV w' v' (S + T) (B + 1) g ∧ Below w.heap.size w w' := by
 have HX := Lib.hid (xadd_walk he hf hB)
 clear he hf hB
 go_enter Tryz.func114,Tryz.ntmps114
 go_wp2_with (go_at_call 115; refine (HX.out).mono ?_; rintro r w2 ⟨v2,rfl,hf2,hb2⟩)
 go_ret
 exact ⟨_,rfl,hf2,hb2⟩
theorem cmul_walk {w : World} {ve vf : Value} {S T : Int} {B g C k : Nat} (he : EV w ve S B g) (hf : EV w vf T C k) (hB : B ≤ 440) (hC : C ≤ 440) (hg : g ≤ 450) (hk : k ≤ 450) :
  Calls Tryz.prog 116 #[ve,vf] w fun r w' => ∃ v' R,r = .returned v' ∧ EV w' v' R (B + C) (g + k) ∧ R * 2 ^ unitE = S * T ∧ Below w.heap.size w w' := by
 obtain ⟨e,h1,g1⟩ := he
 obtain ⟨f,h2,g2⟩ := hf
 have HX := Lib.hid (mul_walk e f ve vf (g1.safe hB hg) (g2.safe hC hk) w h1 h2)
 have HG := Lib.hid (g1.mul g2 hB hC hg hk)
 clear h1 g1 h2 g2 hB hC hg hk
 go_enter Tryz.func116,Tryz.ntmps116
 go_wp2_with (go_at_call 117; refine (HX.out).mono ?_; rintro r w2 ⟨v2,rfl,hf2,hb2⟩)
 go_ret
 obtain ⟨R,hR,hq⟩ := HG.out
 exact ⟨_,R,rfl,⟨_,hf2,hR⟩,hq,hb2⟩
theorem xneg_walk {w : World} {v : Value} {S : Int} {B g : Nat} (h : EV w v S B g) :
  Calls Tryz.prog 119 #[v] w fun r w' => ∃ v', r = .returned v' ∧ EV w' v' (-S) B g ∧ Below w.heap.size w w' := by
 obtain ⟨e,h1,g1⟩ := h
 refine (neg_walk e v w (by have := g1.len; omega) h1).mono ?_
 rintro r w' ⟨v', rfl,hf,hb⟩
 exact ⟨v', rfl,⟨_,hf,g1.neg⟩,hb⟩
theorem cless_walk {w : World} {ve vf : Value} {S T : Int} {B g ab : Nat} (he : EV w ve S B g) (hf : EV w vf T B g) (hB : B ≤ 880) (ha : w.cell? ⟨ab,0,none⟩ = some (.func (.func 114) #[] #[])) :
  Calls Tryz.prog 118 #[ve,vf,.pointer (some ⟨ab,0,none⟩)] w fun r w' => ∃ v', r = .returned v' ∧ EV w' v' (S - T) (B + 1) g ∧ Below w.heap.size w w' := by
 have HN : Hid (Calls Tryz.prog 119 #[vf] w.drew fun r w' => ∃ v', r = .returned v' ∧ Hid (EV w' v' (-T) B g) ∧ Hid (Below w.heap.size w w') ∧ w'.cell? ⟨ab,0,none⟩ = some (.func (.func 114) #[] #[])) := by
  refine (xneg_walk (w := w.drew) hf.drew).mono ?_
  rintro r w' ⟨v', rfl,h,hb⟩
  exact ⟨v', rfl,h,(Below.refl _ w).drew.trans hb,(hb.cell (p := ⟨ab,0,none⟩) (World.block_lt_of_cell? _ _ ha)).trans ha⟩
 have HA : Hid (∀ w' v', Hid (EV w' v' (-T) B g) → Hid (Below w.heap.size w w') → Calls Tryz.prog 114 #[ve,v'] w' fun r w2 => ∃ v2,r = .returned v2 ∧ Hid (EV w2 v2 (S - T) (B + 1) g) ∧ Hid (Below w.heap.size w w2) ∧ w2.cell? ⟨ab,0,none⟩ = some (.func (.func 114) #[] #[])) := by
  intro w' v' h1 h2
  refine (cadd_walk (he.below h2.out) h1.out hB).mono ?_
  rintro r w2 ⟨v2,rfl,h,hb⟩
  have b2 := h2.out.trans (hb.mono h2.out.size)
  exact ⟨v2,rfl,by rw [Int.sub_eq_add_neg]; exact h,b2,(b2.cell (p := ⟨ab,0,none⟩) (World.block_lt_of_cell? _ _ ha)).trans ha⟩
 have n0 : w.drew.cell? ⟨ab,0,none⟩ = some (.func (.func 114) #[] #[]) := ha
 clear he hf hB ha
 go_enter Tryz.func118,Tryz.ntmps118
 go_wp2
 go_region_held3 (fun w' => w'.cell? ⟨ab,0,none⟩ = some (.func (.func 114) #[] #[])) (first | assumption | exact n0 | exact n1)
  (first
   |(go_at_call 119; refine HN.out.mono ?_; rintro r w1 ⟨v1,rfl,H1,HB1,n1⟩)
   |(go_at_call 114; refine (HA.out _ _ H1 HB1).mono ?_; rintro r w2 ⟨v2,rfl,H2,HB2,n2⟩))
 go_wp2
 go_ret
 exact ⟨_,rfl,H2.out,HB2.out⟩
theorem frozen_keep {w w' : World} {p : Addr} (h : w.frozen? p = false) (hl : p.block < w.heap.size) (hb : Below w.heap.size w w') : w'.frozen? p = false :=
 (World.frozen?_of_block (hb.block _ hl)).trans h
def Env1 (w : World) (lb ob db pb : Nat) (l o dx dy px py : Value) : Prop :=
 w.cell? ⟨lb,0,none⟩ = some l ∧ w.cell? ⟨ob,0,none⟩ = some o ∧ w.cell? ⟨db,0,none⟩ = some dx ∧ w.cell? ⟨db,1,none⟩ = some dy ∧ w.cell? ⟨pb,0,none⟩ = some px ∧ w.cell? ⟨pb,1,none⟩ = some py
theorem Env1.below {w w' : World} {lb ob db pb : Nat} {l o dx dy px py : Value} (h : Env1 w lb ob db pb l o dx dy px py) (hb : Below w.heap.size w w') : Env1 w' lb ob db pb l o dx dy px py :=
 ⟨cell_keep h.1 hb,cell_keep h.2.1 hb,cell_keep h.2.2.1 hb,cell_keep h.2.2.2.1 hb,cell_keep h.2.2.2.2.1 hb,cell_keep h.2.2.2.2.2 hb⟩
def Env2 (w : World) (ab mb tb : Nat) (a m : Value) : Prop :=
 w.cell? ⟨ab,0,none⟩ = some a ∧ w.cell? ⟨mb,0,none⟩ = some m ∧ (w.cell? ⟨tb,0,none⟩).isSome = true ∧ (w.cell? ⟨tb,1,none⟩).isSome = true ∧ (w.cell? ⟨tb,2,none⟩).isSome = true ∧
 w.frozen? ⟨tb,0,none⟩ = false ∧ w.frozen? ⟨tb,1,none⟩ = false ∧ w.frozen? ⟨tb,2,none⟩ = false
theorem Env2.below {w w' : World} {ab mb tb : Nat} {a m : Value} (h : Env2 w ab mb tb a m) (hb : Below w.heap.size w w') : Env2 w' ab mb tb a m := by
 obtain ⟨v0,e0⟩ := Option.isSome_iff_exists.1 h.2.2.1
 have hl := World.block_lt_of_cell? _ _ e0
 have some_keep : ∀ i,(w.cell? ⟨tb,i,none⟩).isSome = true → (w'.cell? ⟨tb,i,none⟩).isSome = true := fun i h => by rw [hb.cell (p := ⟨tb,i,none⟩) hl]; exact h
 exact ⟨cell_keep h.1 hb,cell_keep h.2.1 hb,some_keep 0 h.2.2.1,some_keep 1 h.2.2.2.1,some_keep 2 h.2.2.2.2.1,frozen_keep h.2.2.2.2.2.1 hl hb,frozen_keep h.2.2.2.2.2.2.1 hl hb,frozen_keep h.2.2.2.2.2.2.2 hl hb⟩
theorem some_set {w : World} {p q : Addr} {v : Value} (h : (w.cell? q).isSome = true) : ((w.setCell p v).cell? q).isSome = true := by
 by_cases e : p = q
 ·subst e; rw [World.cell?_setCell_same' _ _ _ h]; rfl
 ·rw [World.cell?_setCell_other (h := e)]; exact h
theorem Env2.set {w : World} {ab mb tb : Nat} {a m v : Value} {i : Nat} (h : Env2 w ab mb tb a m) (ha : ab ≠ tb) (hm : mb ≠ tb) : Env2 (w.setCell ⟨tb,i,none⟩ v) ab mb tb a m := by
 refine ⟨?_,?_,some_set h.2.2.1,some_set h.2.2.2.1,some_set h.2.2.2.2.1,?_,?_,?_⟩
 ·rw [World.cell?_setCell_far _ _ _ _ (by exact fun e => ha e.symm)]; exact h.1
 ·rw [World.cell?_setCell_far _ _ _ _ (by exact fun e => hm e.symm)]; exact h.2.1
 all_goals rw [World.frozen?_setCell]
 ·exact h.2.2.2.2.2.1
 ·exact h.2.2.2.2.2.2.1
 ·exact h.2.2.2.2.2.2.2
theorem heap_setCell_far {w : World} {p : Addr} {v : Value} {i : Nat} (h : p.block ≠ i) : (w.setCell p v).heap[i]? = w.heap[i]? := by
 exact Below.heap_setCell _ _ _ _ (fun e => h e.symm)
theorem EV.set3 {w W : World} {v : Value} {S : Int} {B g tb : Nat} {T : TypeId} (h : EV w v S B g) (hb : w.heap[tb]? = some (.cells #[.slice none 0 0,.slice none 0 0,.slice none 0 0] T)) (hW : ∀ i,i ≠ tb → W.heap[i]? = w.heap[i]?) (hs : w.heap.size ≤ W.heap.size) : EV W v S B g := by
 obtain ⟨l,⟨h1,h2,h3⟩,hg⟩ := h
 refine ⟨l,⟨h1,h2,?_⟩,hg⟩
 rcases h3 with h3 | ⟨b,off,cap,e,hlt,hc⟩
 ·exact .inl h3
 ·refine .inr ⟨b,off,cap,e,Nat.lt_of_lt_of_le hlt hs,fun i hi => ?_⟩
  have := hc i hi
  by_cases hbt : b = tb
  ·subst hbt
   exfalso
   rw [World.cell?] at this
   simp only [hb] at this
   rcases Nat.lt_or_ge (off + i) 3 with h | h
   ·have h4 : off + i = 0 ∨ off + i = 1 ∨ off + i = 2 := by omega
    rcases h4 with h4 | h4 | h4 <;> rw [h4] at this <;> simp at this
   ·simp [Nat.not_lt_of_ge h] at this
  ·exact (World.cell?_of_block (hW b hbt)).trans this
theorem EV.form {w : World} {v : Value} {S : Int} {B g : Nat} (h : EV w v S B g) : ∃ ad n c,v = .slice ad n c := by
 obtain ⟨l,h1,_⟩ := h
 obtain ⟨ad,c,rfl,_⟩ := h1.form
 exact ⟨ad,_,c,rfl⟩
theorem crow_walk {w : World} {px py dx dy lb ob db ab mb : Nat} (hpx : px < 2 ^ 64) (hpy : py < 2 ^ 64) (hdx : dx < 2 ^ 64) (hdy : dy < 2 ^ 64) (opx : coordB px = true) (opy : coordB py = true) (odx : coordB dx = true) (ody : coordB dy = true)
  (cl : w.cell? ⟨lb,0,none⟩ = some (.func (.func 118) #[] #[.pointer (some ⟨ab,0,none⟩)])) (co : w.cell? ⟨ob,0,none⟩ = some (.func (.func 112) #[] #[]))
  (cx : w.cell? ⟨db,0,none⟩ = some (.float .f64 dx)) (cy : w.cell? ⟨db,1,none⟩ = some (.float .f64 dy)) (ca : w.cell? ⟨ab,0,none⟩ = some (.func (.func 114) #[] #[])) (cm : w.cell? ⟨mb,0,none⟩ = some (.func (.func 116) #[] #[])) :
  Calls Tryz.prog 120 #[V (px,py),.pointer (some ⟨lb,0,none⟩),.pointer (some ⟨ob,0,none⟩),.pointer (some ⟨db,0,none⟩),.pointer (some ⟨ab,0,none⟩),.pointer (some ⟨mb,0,none⟩)] w fun r w' =>
   ∃ vx vy vz Z,r = .returned (.agg #[vx,vy,vz]) ∧ EV w' vx (fval px - fval dx) 101 100 ∧ EV w' vy (fval py - fval dy) 101 100 ∧ EV w' vz Z 203 200 ∧ Z * 2 ^ unitE = (fval px - fval dx) * (fval px - fval dx) + (fval py - fval dy) * (fval py - fval dy) ∧ Below w.heap.size w w' := by
 obtain ⟨W0,hW0⟩ : ∃ W0 : World,W0 = (w.alloc (.cells #[.float .f64 px,.float .f64 py] 68)).alloc (.cells #[.slice none 0 0,.slice none 0 0,.slice none 0 0] 151) := ⟨_,rfl⟩
 have hb0 : Below w.heap.size w W0 := by rw [hW0]; exact ((Below.refl _ _).alloc (Nat.le_refl _) _).alloc (by simp) _
 have hsz : W0.heap.size = w.heap.size + 1 + 1 := by rw [hW0]; simp
 have hE1 : Env1 W0 lb ob db w.heap.size (.func (.func 118) #[] #[.pointer (some ⟨ab,0,none⟩)]) (.func (.func 112) #[] #[]) (.float .f64 dx) (.float .f64 dy) (.float .f64 px) (.float .f64 py) := by
  refine ⟨cell_keep cl hb0,cell_keep co hb0,cell_keep cx hb0,cell_keep cy hb0,?_,?_⟩
  ·rw [hW0,World.cell?_alloc_past _ _ _ (by simp),World.cell?_alloc_at _ _ _ _ rfl]; rfl
  ·rw [hW0,World.cell?_alloc_past _ _ _ (by simp),World.cell?_alloc_at _ _ _ _ rfl]; rfl
 have z0 : W0.cell? ⟨w.heap.size + 1,0,none⟩ = some (.slice none 0 0) := by rw [hW0,World.cell?_alloc_at _ _ _ _ (by simp)]; rfl
 have z1 : W0.cell? ⟨w.heap.size + 1,1,none⟩ = some (.slice none 0 0) := by rw [hW0,World.cell?_alloc_at _ _ _ _ (by simp)]; rfl
 have z2 : W0.cell? ⟨w.heap.size + 1,2,none⟩ = some (.slice none 0 0) := by rw [hW0,World.cell?_alloc_at _ _ _ _ (by simp)]; rfl
 have hE2 : Env2 W0 ab mb (w.heap.size + 1) (.func (.func 114) #[] #[]) (.func (.func 116) #[] #[]) := by
  refine ⟨cell_keep ca hb0,cell_keep cm hb0,by rw [z0]; rfl,by rw [z1]; rfl,by rw [z2]; rfl,?_,?_,?_⟩
  all_goals
   rw [hW0]
   unfold World.frozen?
   have := heap_alloc_new (w.alloc (.cells #[.float .f64 px,.float .f64 py] 68)) (.cells #[.slice none 0 0,.slice none 0 0,.slice none 0 0] 151)
   rw [show (w.alloc (.cells #[.float .f64 px,.float .f64 py] 68)).heap.size = w.heap.size + 1 by simp] at this
   rw [this]; simp
 have HOF : Hid (∀ x W,x < 2 ^ 64 ∧ coordB x = true → Hid (Below W0.heap.size W0 W) → Calls Tryz.prog 112 #[.float .f64 x] W fun r W' => ∃ ad n c,r = .returned (.slice ad n c) ∧ Hid (EV W' (.slice ad n c) (fval x) 100 100) ∧ Hid (Below W.heap.size W W') ∧ Hid (Below W0.heap.size W0 W') ∧
   Env1 W' lb ob db w.heap.size (.func (.func 118) #[] #[.pointer (some ⟨ab,0,none⟩)]) (.func (.func 112) #[] #[]) (.float .f64 dx) (.float .f64 dy) (.float .f64 px) (.float .f64 py)) := by
  intro x W hx hB
  refine (cof_walk x hx.1 hx.2 W).mono ?_
  rintro r W' ⟨v', rfl,he,hb⟩
  obtain ⟨ad,n,c,rfl⟩ := he.form
  have hB' := hB.out.trans (hb.mono hB.out.size)
  exact ⟨ad,n,c,rfl,he,hb,hB', hE1.below hB'⟩
 have HLE : Hid (∀ ve vf S T W,Hid (EV W ve S 100 100) → Hid (EV W vf T 100 100) → Hid (Below W0.heap.size W0 W) → Calls Tryz.prog 118 #[ve,vf,.pointer (some ⟨ab,0,none⟩)] W fun r W' => ∃ ad n c,r = .returned (.slice ad n c) ∧ Hid (EV W' (.slice ad n c) (S - T) 101 100) ∧ Hid (Below W.heap.size W W') ∧ Hid (Below W0.heap.size W0 W') ∧
   Env1 W' lb ob db w.heap.size (.func (.func 118) #[] #[.pointer (some ⟨ab,0,none⟩)]) (.func (.func 112) #[] #[]) (.float .f64 dx) (.float .f64 dy) (.float .f64 px) (.float .f64 py)) := by
  intro ve vf S T W h1 h2 hB
  refine (cless_walk h1.out h2.out (by decide) (hE2.below hB.out).1).mono ?_
  rintro r W' ⟨v', rfl,he,hb⟩
  obtain ⟨ad,n,c,rfl⟩ := he.form
  have hB' := hB.out.trans (hb.mono hB.out.size)
  exact ⟨ad,n,c,rfl,he,hb,hB', hE1.below hB'⟩
 have HMU : Hid (∀ ve S W,Hid (EV W ve S 101 100) → Hid (Below W0.heap.size W0 W) → Calls Tryz.prog 116 #[ve,ve] W fun r W' => ∃ ad n c R,r = .returned (.slice ad n c) ∧ Hid (EV W' (.slice ad n c) R 202 200) ∧ Hid (R * 2 ^ unitE = S * S) ∧ Hid (Below W.heap.size W W') ∧ Hid (Below W0.heap.size W0 W') ∧
   Env2 W' ab mb (w.heap.size + 1) (.func (.func 114) #[] #[]) (.func (.func 116) #[] #[])) := by
  intro ve S W h1 hB
  refine (cmul_walk h1.out h1.out (by decide) (by decide) (by decide) (by decide)).mono ?_
  rintro r W' ⟨v', R,rfl,he,hq,hb⟩
  obtain ⟨ad,n,c,rfl⟩ := he.form
  have hB' := hB.out.trans (hb.mono hB.out.size)
  exact ⟨ad,n,c,R,rfl,he,hq,hb,hB', hE2.below hB'⟩
 have HAD : Hid (∀ ve vf S T W,Hid (EV W ve S 202 200) → Hid (EV W vf T 202 200) → Hid (Below W0.heap.size W0 W) → Calls Tryz.prog 114 #[ve,vf] W fun r W' => ∃ ad n c,r = .returned (.slice ad n c) ∧ Hid (EV W' (.slice ad n c) (S + T) 203 200) ∧ Hid (Below W.heap.size W W') ∧ Hid (Below W0.heap.size W0 W') ∧
   Env2 W' ab mb (w.heap.size + 1) (.func (.func 114) #[] #[]) (.func (.func 116) #[] #[]) ∧ W'.cell? ⟨w.heap.size + 1,0,none⟩ = some (.slice none 0 0) ∧ W'.cell? ⟨w.heap.size + 1,1,none⟩ = some (.slice none 0 0) ∧ W'.cell? ⟨w.heap.size + 1,2,none⟩ = some (.slice none 0 0)) := by
  intro ve vf S T W h1 h2 hB
  refine (cadd_walk h1.out h2.out (by decide)).mono ?_
  rintro r W' ⟨v', rfl,he,hb⟩
  obtain ⟨ad,n,c,rfl⟩ := he.form
  have hB' := hB.out.trans (hb.mono hB.out.size)
  exact ⟨ad,n,c,rfl,he,hb,hB', hE2.below hB', cell_keep z0 hB', cell_keep z1 hB', cell_keep z2 hB'⟩
 have HP1 : Hid (px < 2 ^ 64 ∧ coordB px = true) := ⟨hpx,opx⟩
 have HP2 : Hid (dx < 2 ^ 64 ∧ coordB dx = true) := ⟨hdx,odx⟩
 have HP3 : Hid (py < 2 ^ 64 ∧ coordB py = true) := ⟨hpy,opy⟩
 have HP4 : Hid (dy < 2 ^ 64 ∧ coordB dy = true) := ⟨hdy,ody⟩
 have HE2 := Lib.hid (fun W (hb : Below W0.heap.size W0 W) => hE2.below hb)
 have HB0 := Lib.hid hb0
 have B0 : Hid (Below W0.heap.size W0 W0.drew) := (Below.refl _ W0).drew
 have n0 : Env1 W0.drew lb ob db w.heap.size (.func (.func 118) #[] #[.pointer (some ⟨ab,0,none⟩)]) (.func (.func 112) #[] #[]) (.float .f64 dx) (.float .f64 dy) (.float .f64 px) (.float .f64 py) := hE1
 have HSZ := Lib.hid hsz
 have HTB : Hid (W0.heap[w.heap.size + 1]? = some (.cells #[.slice none 0 0,.slice none 0 0,.slice none 0 0] 151)) := by
  have := heap_alloc_new (w.alloc (.cells #[.float .f64 px,.float .f64 py] 68)) (.cells #[.slice none 0 0,.slice none 0 0,.slice none 0 0] 151)
  rw [show (w.alloc (.cells #[.float .f64 px,.float .f64 py] 68)).heap.size = w.heap.size + 1 by simp,← hW0] at this
  exact this
 have HNE : Hid (ab ≠ w.heap.size + 1 ∧ mb ≠ w.heap.size + 1) := ⟨by have := World.block_lt_of_cell? _ _ ca; dsimp only at this; omega,by have := World.block_lt_of_cell? _ _ cm; dsimp only at this; omega⟩
 clear hpx hpy hdx hdy opx opy odx ody cl co cx cy ca cm hE1 hE2 hb0 hsz z0 z1 z2
 unfold Env1 Env2 at *
 unfold V
 go_enter Tryz.func120,Tryz.ntmps120
 go_wp2
 rw [← hW0]
 clear hW0
 go_region_held3 (fun w' => w'.cell? ⟨lb,0,none⟩ = some (.func (.func 118) #[] #[.pointer (some ⟨ab,0,none⟩)]) ∧ w'.cell? ⟨ob,0,none⟩ = some (.func (.func 112) #[] #[]) ∧ w'.cell? ⟨db,0,none⟩ = some (.float .f64 dx) ∧ w'.cell? ⟨db,1,none⟩ = some (.float .f64 dy) ∧ w'.cell? ⟨w.heap.size,0,none⟩ = some (.float .f64 px) ∧ w'.cell? ⟨w.heap.size,1,none⟩ = some (.float .f64 py)) (first | assumption | exact n0)
  (first
   |(go_at_call 112; with_reducible refine (HOF.out _ _ HP1.out B0).mono ?_; rintro r w1 ⟨a1,m1,c1,rfl,E1,C1,B1,n1⟩)
   |(go_at_call 112; with_reducible refine (HOF.out _ _ HP2.out B1).mono ?_; rintro r w2 ⟨a2,m2,c2,rfl,E2,C2,B2,n2⟩; have E1' := Lib.hid (E1.out.below C2.out))
   |(go_at_call 118; with_reducible refine (HLE.out _ _ _ _ _ E1' E2 B2).mono ?_; rintro r w3 ⟨a3,m3,c3,rfl,E3,C3,B3,n3⟩)
   |(go_at_call 112; with_reducible refine (HOF.out _ _ HP3.out B3).mono ?_; rintro r w4 ⟨a4,m4,c4,rfl,E4,C4,B4,n4⟩)
   |(go_at_call 112; with_reducible refine (HOF.out _ _ HP4.out B4).mono ?_; rintro r w5 ⟨a5,m5,c5,rfl,E5,C5,B5,n5⟩; have E4' := Lib.hid (E4.out.below C5.out))
   |(go_at_call 118; with_reducible refine (HLE.out _ _ _ _ _ E4' E5 B5).mono ?_; rintro r w6 ⟨a6,m6,c6,rfl,E6,C6,B6,n6⟩))
 have X6 : Hid (EV w6.drew (.slice a3 m3 c3) (fval px - fval dx) 101 100) := EV.drew (((E3.out.below C4.out).below C5.out).below C6.out)
 have Y6 : Hid (EV w6.drew (.slice a6 m6 c6) (fval py - fval dy) 101 100) := EV.drew E6.out
 have B6' : Hid (Below W0.heap.size W0 w6.drew) := B6.out.drew
 have n7 : w6.drew.cell? ⟨ab,0,none⟩ = some (.func (.func 114) #[] #[]) ∧ w6.drew.cell? ⟨mb,0,none⟩ = some (.func (.func 116) #[] #[]) ∧ (w6.drew.cell? ⟨w.heap.size + 1,0,none⟩).isSome = true ∧ (w6.drew.cell? ⟨w.heap.size + 1,1,none⟩).isSome = true ∧ (w6.drew.cell? ⟨w.heap.size + 1,2,none⟩).isSome = true ∧ w6.drew.frozen? ⟨w.heap.size + 1,0,none⟩ = false ∧ w6.drew.frozen? ⟨w.heap.size + 1,1,none⟩ = false ∧ w6.drew.frozen? ⟨w.heap.size + 1,2,none⟩ = false := HE2.out w6 B6.out
 have HBS := Lib.hid (HB0.out.trans (B6.out.mono HB0.out.size))
 clear n0 n1 n2 n3 n4 n5 n6 E1 E1' E2 E3 E4 E4' E5 E6 C1 C2 C3 C4 C5 C6 B0 B1 B2 B3 B4 B5 HP1 HP2 HP3 HP4 HOF HLE HE2
 go_wp2
 go_region_held3 (fun w' => w'.cell? ⟨ab,0,none⟩ = some (.func (.func 114) #[] #[]) ∧ w'.cell? ⟨mb,0,none⟩ = some (.func (.func 116) #[] #[]) ∧ (w'.cell? ⟨w.heap.size + 1,0,none⟩).isSome = true ∧ (w'.cell? ⟨w.heap.size + 1,1,none⟩).isSome = true ∧ (w'.cell? ⟨w.heap.size + 1,2,none⟩).isSome = true ∧ w'.frozen? ⟨w.heap.size + 1,0,none⟩ = false ∧ w'.frozen? ⟨w.heap.size + 1,1,none⟩ = false ∧ w'.frozen? ⟨w.heap.size + 1,2,none⟩ = false) (first | assumption | exact n7 | exact Env2.set (Env2.set (Env2.set n10 HNE.out.1 HNE.out.2) HNE.out.1 HNE.out.2) HNE.out.1 HNE.out.2)
  (first
   |(go_at_call 116; with_reducible refine (HMU.out _ _ w6.drew X6 B6').mono ?_; rintro r w7 ⟨a7,m7,c7,R7,rfl,E7,Q7,C7,B7,n8⟩; have Y7 := Lib.hid (Y6.out.below C7.out))
   |(go_at_call 116; with_reducible refine (HMU.out _ _ w7 Y7 B7).mono ?_; rintro r w8 ⟨a8,m8,c8,R8,rfl,E8,Q8,C8,B8,n9⟩; have E7' := Lib.hid (E7.out.below C8.out); have YX := Lib.hid (Y7.out.below C8.out))
   |(go_at_call 114; with_reducible refine (HAD.out _ _ _ _ w8 E7' E8 B8).mono ?_; rintro r w9 ⟨a9,m9,c9,rfl,E9,C9,B9,n10,y0,y1,y2⟩))
 obtain ⟨WF,hWF⟩ : ∃ WF : World,WF = ((w9.setCell ⟨w.heap.size + 1,0,none⟩ (.slice a3 m3 c3)).setCell ⟨w.heap.size + 1,1,none⟩ (.slice a6 m6 c6)).setCell ⟨w.heap.size + 1,2,none⟩ (.slice a9 m9 c9) := ⟨_,rfl⟩
 have f0 : WF.cell? ⟨w.heap.size + 1,0,none⟩ = some (.slice a3 m3 c3) := by
  rw [hWF,World.cell?_setCell_other (h := by simp),World.cell?_setCell_other (h := by simp),World.cell?_setCell_same (h := y0)]
 have f1 : WF.cell? ⟨w.heap.size + 1,1,none⟩ = some (.slice a6 m6 c6) := by
  rw [hWF,World.cell?_setCell_other (h := by simp),World.cell?_setCell_same' _ _ _ (some_set (by rw [y1]; rfl))]
 have f2 : WF.cell? ⟨w.heap.size + 1,2,none⟩ = some (.slice a9 m9 c9) := by
  rw [hWF,World.cell?_setCell_same' _ _ _ (some_set (some_set (by rw [y2]; rfl)))]
 have X9 := Lib.hid (((X6.out.below C7.out).below C8.out).below C9.out)
 have Y9 := Lib.hid (YX.out.below C9.out)
 clear n7 n8 n9 E7 E7' E8 X6 Y6 Y7 YX C7 C8 C9 B6' B7 B8 HMU HAD
 have hT := (B9.out.block (w.heap.size + 1) (by have := HSZ.out; omega)).trans HTB.out
 have hne : ∀ i,i ≠ w.heap.size + 1 → WF.heap[i]? = w9.heap[i]? := fun i hi => by
  rw [hWF,heap_setCell_far (by exact fun e => hi e.symm),heap_setCell_far (by exact fun e => hi e.symm),heap_setCell_far (by exact fun e => hi e.symm)]
 have hsz9 : WF.heap.size = w9.heap.size := by rw [hWF]; simp [World.setCell]
 have XF := Lib.hid (X9.out.set3 hT hne (by omega))
 have YF := Lib.hid (Y9.out.set3 hT hne (by omega))
 have EF := Lib.hid (E9.out.set3 hT hne (by omega))
 have BF : Hid (Below w.heap.size w WF) := by
  have hh := HB0.out.trans (B9.out.mono HB0.out.size)
  refine ⟨?_,?_,?_,by rw [hsz9]; exact hh.size,fun i hi => (hne i (by omega)).trans (hh.block i hi)⟩
  ·rw [hWF]; exact hh.os
  ·rw [hWF]; exact hh.tape
  ·rw [hWF]; exact hh.output
 rw [← hWF]
 clear hWF hne hT hsz9 X9 Y9 E9 y0 y1 y2 n10
 repeat (rename (_ ∧ _) => hx; clear hx)
 go_wp2
 (try simp only [Exit.inBlock,Exit.then])
 refine bodyPost_ret (by simp [results,Tryz.results120,go_sem,f0,f1,f2]; try rfl) rfl ?_
 refine ⟨_,_,_,R7 + R8,rfl,XF.out,YF.out,EF.out,?_,BF.out⟩
 rw [Int.add_mul,Q7.out,Q8.out]
theorem circle_good (l : List Pt) (ad : Option Addr) (cap : Nat) (h64 : ∀ p,p ∈ l → pt64 p) (hlen : l.length ≤ 4294967296) (w : World) (hc : PCells w ad l) :
  Calls Tryz.prog 111 #[.slice ad l.length cap] w fun r w' => r = .returned (.bool (l.all ptOK)) ∧ Below w.heap.size w w' := by
 have HC := Lib.hid hc
 have H64 := Lib.hid h64
 clear hc h64
 go_enter Tryz.func111,Tryz.ntmps111
 go_wp2
 go_loopw [7] (fun i wr => ∃ n : Nat,n ≤ l.length ∧ i = .int .i64 n ∧ Hid ((l.take n).all ptOK = true) ∧ Below w.heap.size w wr) (fun i _ => l.length - (intOf i).toNat)
 case atStart => exact ⟨0,Nat.zero_le _,rfl,by simp [Hid],Below.refl _ _⟩
 case round =>
  obtain ⟨n,hn,rfl,HO,hbw⟩ := hrel
  by_cases hlt : n < l.length
  ·obtain ⟨bb,off,rfl,hbb,hc⟩ := HC.out (by omega)
   have hcx : wr.cell? ⟨bb,off + n * 2,none⟩ = some (.float .f64 (l.getD n (0,0)).1) := (hbw.cell (p := ⟨bb,off + n * 2,none⟩) hbb).trans (hc n hlt).1
   have hcy : wr.cell? ⟨bb,off + n * 2 + 1,none⟩ = some (.float .f64 (l.getD n (0,0)).2) := (hbw.cell (p := ⟨bb,off + n * 2 + 1,none⟩) hbb).trans (hc n hlt).2
   clear hc
   have hm := getD_memP hlt
   have h64p := H64.out _ hm
   have HT := Lib.hid (take_snocP l n hlt)
   have HALL : Hid (ptOK (l.getD n (0,0)) = false → l.all ptOK = false) := fun h => by
    rw [List.all_eq_false]; exact ⟨_,hm,by rw [h]; simp⟩
   have HXX := Lib.hid h64p.1
   have HYY := Lib.hid h64p.2
   have HPT : Hid (∀ a b,l.getD n (0,0) = (a,b) → ptOK (l.getD n (0,0)) = (coordB a && coordB b)) := fun a b h => by rw [h]; rfl
   clear hm h64p
   generalize l.getD n (0,0) = p at *
   obtain ⟨x,y⟩ := p
   dsimp only at hcx hcy HXX HYY
   have HP2 := Lib.hid (HPT.out x y rfl)
   clear HPT
   have HCX := Lib.hid (circle_may x HXX.out)
   have HCY := Lib.hid (circle_may y HYY.out)
   have s0 := hbw.size
   cases hx : coordB x
   ·have HF : Hid (l.all ptOK = false) := HALL.out (by rw [HP2.out,hx]; rfl)
    rw [hx] at HCX
    go_wp2_with (go_at_call 153; (first | (with_reducible refine (HCX.out _).mono ?_) | (with_reducible refine (HCY.out _).mono ?_)); rintro r w1 ⟨rfl,rfl⟩)
    go_ret
    exact ⟨by rw [HF.out]; rfl,hbw.alloc s0 _⟩
   ·rw [hx] at HCX
    cases hy : coordB y
    ·have HF : Hid (l.all ptOK = false) := HALL.out (by rw [HP2.out,hx,hy]; rfl)
     rw [hy] at HCY
     go_wp2_with (go_at_call 153; (first | (with_reducible refine (HCX.out _).mono ?_) | (with_reducible refine (HCY.out _).mono ?_)); rintro r w1 ⟨rfl,rfl⟩)
     go_ret
     exact ⟨by rw [HF.out]; rfl,hbw.alloc s0 _⟩
    ·have HF : Hid ((l.take (n + 1)).all ptOK = true) := by
      unfold Hid
      rw [HT.out,List.all_append,HO.out]
      simp only [List.all_cons,List.all_nil,Bool.and_true,Bool.true_and]
      rw [HP2.out,hx,hy]; rfl
     rw [hy] at HCY
     go_wp2_with (go_at_call 153; (first | (with_reducible refine (HCX.out _).mono ?_) | (with_reducible refine (HCY.out _).mono ?_)); rintro r w1 ⟨rfl,rfl⟩)
     go_roundw
     case rel => exact ⟨n + 1,by omega,by go_num,HF,hbw.alloc s0 _⟩
     case measure => simp [intOf]; omega
  ·have hnl : n = l.length := by omega
   subst hnl
   have HF : Hid (l.all ptOK = true) := by have := HO.out; rw [List.take_of_length_le (Nat.le_refl _)] at this; exact this
   go_wp2
   go_ret
   exact ⟨by rw [HF.out]; rfl,hbw⟩
theorem good4 (a b c d : Pt) (h64 : ∀ p,p ∈ [a,b,c,d] → pt64 p) (ok : Bool) (h : [a,b,c,d].all ptOK = ok) (w : World) (blk : Nat)
  (hb : w.heap[blk]? = some (.cells #[.float .f64 a.1,.float .f64 a.2,.float .f64 b.1,.float .f64 b.2,.float .f64 c.1,.float .f64 c.2,.float .f64 d.1,.float .f64 d.2] 68 (0,0))) :
  Calls Tryz.prog 111 #[.slice (some ⟨blk,0,none⟩) 4 4] w fun r w' => r = .returned (.bool ok) ∧ Below w.heap.size w w' := by
 have hlt : blk < w.heap.size := by
  apply Classical.byContradiction; intro hn
  rw [Array.getElem?_eq_none (by omega)] at hb; cases hb
 have := circle_good [a,b,c,d] (some ⟨blk,0,none⟩) 4 h64 (by simp) w (by
  intro _
  refine ⟨blk,0,rfl,hlt,?_⟩
  intro i hi
  have hi3 : i = 0 ∨ i = 1 ∨ i = 2 ∨ i = 3 := by simp at hi; omega
  rcases hi3 with rfl | rfl | rfl | rfl <;> exact ⟨by simp [World.cell?,hb],by simp [World.cell?,hb]⟩)
 rw [h] at this
 exact this
def P8 (w : World) (B : Nat) (ax ay bx bY cx cy dx dy : Nat) : Prop :=
 w.cell? ⟨B,0,none⟩ = some (.float .f64 ax) ∧ w.cell? ⟨B,1,none⟩ = some (.float .f64 ay) ∧ w.cell? ⟨B + 1,0,none⟩ = some (.float .f64 bx) ∧ w.cell? ⟨B + 1,1,none⟩ = some (.float .f64 bY) ∧
 w.cell? ⟨B + 1 + 1,0,none⟩ = some (.float .f64 cx) ∧ w.cell? ⟨B + 1 + 1,1,none⟩ = some (.float .f64 cy) ∧ w.cell? ⟨B + 1 + 1 + 1,0,none⟩ = some (.float .f64 dx) ∧ w.cell? ⟨B + 1 + 1 + 1,1,none⟩ = some (.float .f64 dy)
theorem P8.below {w w' : World} {B ax ay bx bY cx cy dx dy : Nat} (h : P8 w B ax ay bx bY cx cy dx dy) (hb : Below w.heap.size w w') : P8 w' B ax ay bx bY cx cy dx dy :=
 ⟨cell_keep h.1 hb,cell_keep h.2.1 hb,cell_keep h.2.2.1 hb,cell_keep h.2.2.2.1 hb,cell_keep h.2.2.2.2.1 hb,cell_keep h.2.2.2.2.2.1 hb,cell_keep h.2.2.2.2.2.2.1 hb,cell_keep h.2.2.2.2.2.2.2 hb⟩
theorem P8.made (w : World) (ax ay bx bY cx cy dx dy : Nat) (T : TypeId) :
  P8 ((((w.alloc (.cells #[.float .f64 ax,.float .f64 ay] T)).alloc (.cells #[.float .f64 bx,.float .f64 bY] T)).alloc (.cells #[.float .f64 cx,.float .f64 cy] T)).alloc (.cells #[.float .f64 dx,.float .f64 dy] T)) w.heap.size ax ay bx bY cx cy dx dy := by
 refine ⟨?_,?_,?_,?_,?_,?_,?_,?_⟩
 ·rw [World.cell?_alloc_past _ _ _ (by simp <;> omega),World.cell?_alloc_past _ _ _ (by simp <;> omega),World.cell?_alloc_past _ _ _ (by simp),World.cell?_alloc_at _ _ _ _ rfl]; rfl
 ·rw [World.cell?_alloc_past _ _ _ (by simp <;> omega),World.cell?_alloc_past _ _ _ (by simp <;> omega),World.cell?_alloc_past _ _ _ (by simp),World.cell?_alloc_at _ _ _ _ rfl]; rfl
 ·rw [World.cell?_alloc_past _ _ _ (by simp <;> omega),World.cell?_alloc_past _ _ _ (by simp <;> omega),World.cell?_alloc_at _ _ _ _ (by simp)]; rfl
 ·rw [World.cell?_alloc_past _ _ _ (by simp <;> omega),World.cell?_alloc_past _ _ _ (by simp <;> omega),World.cell?_alloc_at _ _ _ _ (by simp)]; rfl
 ·rw [World.cell?_alloc_past _ _ _ (by simp <;> omega),World.cell?_alloc_at _ _ _ _ (by simp)]; rfl
 ·rw [World.cell?_alloc_past _ _ _ (by simp <;> omega),World.cell?_alloc_at _ _ _ _ (by simp)]; rfl
 ·rw [World.cell?_alloc_at _ _ _ _ (by simp)]; rfl
 ·rw [World.cell?_alloc_at _ _ _ _ (by simp)]; rfl
theorem csign_fast (ax ay bx bY cx cy dx dy : Nat) (s : Int)
  (hF : ∀ w,Calls Tryz.prog 110 #[V (ax,ay),V (bx,bY),V (cx,cy),V (dx,dy)] w fun r w' => r = .returned (.tuple #[.int .i64 s,.bool true]) ∧ Below w.heap.size w w') (w : World) :
  Calls Tryz.prog 88 #[V (ax,ay),V (bx,bY),V (cx,cy),V (dx,dy)] w fun r w' => r = .returned (.int .i64 s) ∧ Below w.heap.size w w' := by
 have HF := Lib.hid hF
 clear hF
 unfold V at *
 go_enter Tryz.func88,Tryz.ntmps88
 go_wp2_with (first
  |(go_at_call 110; refine (HF.out _).mono ?_; rintro r w1 ⟨rfl,hb1⟩; obtain ⟨q1,q2,q3,q4,q5,q6,q7,q8⟩ := (P8.made w ax ay bx bY cx cy dx dy 68).below hb1))
 go_ret
 exact ⟨rfl,((((Below.refl w.heap.size w).alloc (Nat.le_refl _) _).alloc (by simp) _).alloc (by simp <;> omega) _).alloc (by simp <;> omega) _ |>.trans (hb1.mono (by simp <;> omega))⟩
def det4 (a b c d : Pt) : Int :=
 let x := fun p : Pt => fval p.1 - fval d.1
 let y := fun p : Pt => fval p.2 - fval d.2
 (x a * x a + y a * y a) * (x b * y c - x c * y b) + (x b * x b + y b * y b) * (x c * y a - x a * y c) + (x c * x c + y c * y c) * (x a * y b - x b * y a)
def gridL (k : Nat) (m16 m17 m18 : Bool) : Array Bool := #[true,true,decide (1 ≤ k),true,true,decide (2 ≤ k),true,true,decide (3 ≤ k),m16,m17,m18,false,false,false]
def fillA (a : Act) (v45 v48 v51 v16 v17 v18 : Value) : Act := (((((a.put (some 45) v45).put (some 48) v48).put (some 51) v51).put (some 16) v16).put (some 17) v17).put (some 18) v18
def gridR (k : Nat) (m16 m17 m18 : Bool) : List Nat :=
 (if k = 0 then [2] else if k = 1 then [5] else if k = 2 then [8] else []) ++ (if m16 then [] else [9]) ++ (if m17 then [] else [10]) ++ (if m18 then [] else [11])
theorem grid {P : Program} {ops : Array Oper} {Q : Exit → Act → World → Prop} {S : World → Prop} (a0 : Act) (F : Nat → Bool → Bool → Bool → Value → Value → Value → Value → Value → Value → World → Prop)
  (hr : ∀ k m16 m17 m18,k ≤ 3 → (k = 3 ∧ m16 = true ∧ m17 = true ∧ m18 = true) ∨ Region.ready .any ops (gridL k m16 m17 m18) = gridR k m16 m17 m18)
  (h2 : ∀ m16 m17 m18 v1 v2 v3 x y z w,F 0 m16 m17 m18 v1 v2 v3 x y z w → wpOp P ops Q 2 (fun a' w' => ∃ v1', a' = fillA a0 v1' v2 v3 x y z ∧ S w' ∧ F 1 m16 m17 m18 v1' v2 v3 x y z w') (fillA a0 v1 v2 v3 x y z) w)
  (h5 : ∀ m16 m17 m18 v1 v2 v3 x y z w,F 1 m16 m17 m18 v1 v2 v3 x y z w → wpOp P ops Q 5 (fun a' w' => ∃ v2', a' = fillA a0 v1 v2' v3 x y z ∧ S w' ∧ F 2 m16 m17 m18 v1 v2' v3 x y z w') (fillA a0 v1 v2 v3 x y z) w)
  (h8 : ∀ m16 m17 m18 v1 v2 v3 x y z w,F 2 m16 m17 m18 v1 v2 v3 x y z w → wpOp P ops Q 8 (fun a' w' => ∃ v3', a' = fillA a0 v1 v2 v3' x y z ∧ S w' ∧ F 3 m16 m17 m18 v1 v2 v3' x y z w') (fillA a0 v1 v2 v3 x y z) w)
  (h9 : ∀ k m17 m18 v1 v2 v3 x y z w,F k false m17 m18 v1 v2 v3 x y z w → wpOp P ops Q 9 (fun a' w' => ∃ x', a' = fillA a0 v1 v2 v3 x' y z ∧ S w' ∧ F k true m17 m18 v1 v2 v3 x' y z w') (fillA a0 v1 v2 v3 x y z) w)
  (h10 : ∀ k m16 m18 v1 v2 v3 x y z w,F k m16 false m18 v1 v2 v3 x y z w → wpOp P ops Q 10 (fun a' w' => ∃ y', a' = fillA a0 v1 v2 v3 x y' z ∧ S w' ∧ F k m16 true m18 v1 v2 v3 x y' z w') (fillA a0 v1 v2 v3 x y z) w)
  (h11 : ∀ k m16 m17 v1 v2 v3 x y z w,F k m16 m17 false v1 v2 v3 x y z w → wpOp P ops Q 11 (fun a' w' => ∃ z', a' = fillA a0 v1 v2 v3 x y z' ∧ S w' ∧ F k m16 m17 true v1 v2 v3 x y z' w') (fillA a0 v1 v2 v3 x y z) w)
  (hfin : ∀ v1 v2 v3 x y z w,S w → F 3 true true true v1 v2 v3 x y z w → wpAnyH P .any ops Q S 3 (gridL 3 true true true) (fillA a0 v1 v2 v3 x y z) w) :
  ∀ n k m16 m17 m18 v1 v2 v3 x y z w,k ≤ 3 → n = 3 - k + (if m16 then 0 else 1) + (if m17 then 0 else 1) + (if m18 then 0 else 1) → S w → F k m16 m17 m18 v1 v2 v3 x y z w →
   wpAnyH P .any ops Q S (n + 3) (gridL k m16 m17 m18) (fillA a0 v1 v2 v3 x y z) w := by
 have mono : ∀ {i : Nat} {K K' : Act → World → Prop} {a : Act} {w : World},(∀ a w,K a w → K' a w) → wpOp P ops Q i K a w → wpOp P ops Q i K' a w := fun h => wpOp_mono h
 intro n
 induction n with
 | zero =>
  intro k m16 m17 m18 v1 v2 v3 x y z w hk hn hS hF
  have e : k = 3 ∧ m16 = true ∧ m17 = true ∧ m18 = true := by
   cases m16 <;> cases m17 <;> cases m18 <;> simp at hn ⊢ <;> omega
  obtain ⟨rfl,rfl,rfl,rfl⟩ := e
  exact hfin v1 v2 v3 x y z w hS hF
 | succ n ih =>
  intro k m16 m17 m18 v1 v2 v3 x y z w hk hn hS hF
  have hR : Region.ready .any ops (gridL k m16 m17 m18) = gridR k m16 m17 m18 := by
   rcases hr k m16 m17 m18 hk with ⟨rfl,rfl,rfl,rfl⟩ | h
   ·simp at hn
   ·exact h
  have c3 : k = 0 ∨ k = 1 ∨ k = 2 ∨ k = 3 := by omega
  refine ⟨fun h0 => ?_,?_⟩
  ·exfalso
   rw [hR] at h0
   rcases c3 with rfl | rfl | rfl | rfl <;> cases m16 <;> cases m17 <;> cases m18 <;> simp [gridR] at h0 hn
  ·rw [hR]
   intro i hi
   have hi' : (i = 2 ∧ k = 0) ∨ (i = 5 ∧ k = 1) ∨ (i = 8 ∧ k = 2) ∨ (i = 9 ∧ m16 = false) ∨ (i = 10 ∧ m17 = false) ∨ (i = 11 ∧ m18 = false) := by
    rcases c3 with rfl | rfl | rfl | rfl <;> cases m16 <;> cases m17 <;> cases m18 <;> simp [gridR] at hi ⊢ <;> omega
   rcases hi' with ⟨rfl,rfl⟩ | ⟨rfl,rfl⟩ | ⟨rfl,rfl⟩ | ⟨rfl,rfl⟩ | ⟨rfl,rfl⟩ | ⟨rfl,rfl⟩
   ·exact mono (fun a' w' ⟨v', e,s,f⟩ => ⟨s,by rw [e]; exact ih 1 m16 m17 m18 v' v2 v3 x y z w' (by omega) (by omega) s f⟩) (h2 m16 m17 m18 v1 v2 v3 x y z w hF)
   ·exact mono (fun a' w' ⟨v', e,s,f⟩ => ⟨s,by rw [e]; exact ih 2 m16 m17 m18 v1 v' v3 x y z w' (by omega) (by omega) s f⟩) (h5 m16 m17 m18 v1 v2 v3 x y z w hF)
   ·exact mono (fun a' w' ⟨v', e,s,f⟩ => ⟨s,by rw [e]; exact ih 3 m16 m17 m18 v1 v2 v' x y z w' (by omega) (by omega) s f⟩) (h8 m16 m17 m18 v1 v2 v3 x y z w hF)
   ·exact mono (fun a' w' ⟨v', e,s,f⟩ => ⟨s,by rw [e]; exact ih k true m17 m18 v1 v2 v3 v' y z w' hk (by simp at hn ⊢; omega) s f⟩) (h9 k m17 m18 v1 v2 v3 x y z w hF)
   ·exact mono (fun a' w' ⟨v', e,s,f⟩ => ⟨s,by rw [e]; exact ih k m16 true m18 v1 v2 v3 x v' z w' hk (by simp at hn ⊢; omega) s f⟩) (h10 k m16 m18 v1 v2 v3 x y z w hF)
   ·exact mono (fun a' w' ⟨v', e,s,f⟩ => ⟨s,by rw [e]; exact ih k m16 m17 true v1 v2 v3 x y v' w' hk (by simp at hn ⊢; omega) s f⟩) (h11 k m16 m17 v1 v2 v3 x y z w hF)
theorem grid_start {P : Program} {ops : Array Oper} {Q : Exit → Act → World → Prop} {S : World → Prop} {a0 : Act} {w : World} (F : Nat → Bool → Bool → Bool → Value → Value → Value → Value → Value → Value → World → Prop)
  (hr : ∀ k m16 m17 m18,k ≤ 3 → (k = 3 ∧ m16 = true ∧ m17 = true ∧ m18 = true) ∨ Region.ready .any ops (gridL k m16 m17 m18) = gridR k m16 m17 m18)
  (h2 : ∀ m16 m17 m18 v1 v2 v3 x y z w,F 0 m16 m17 m18 v1 v2 v3 x y z w → wpOp P ops Q 2 (fun a' w' => ∃ v1', a' = fillA a0 v1' v2 v3 x y z ∧ S w' ∧ F 1 m16 m17 m18 v1' v2 v3 x y z w') (fillA a0 v1 v2 v3 x y z) w)
  (h5 : ∀ m16 m17 m18 v1 v2 v3 x y z w,F 1 m16 m17 m18 v1 v2 v3 x y z w → wpOp P ops Q 5 (fun a' w' => ∃ v2', a' = fillA a0 v1 v2' v3 x y z ∧ S w' ∧ F 2 m16 m17 m18 v1 v2' v3 x y z w') (fillA a0 v1 v2 v3 x y z) w)
  (h8 : ∀ m16 m17 m18 v1 v2 v3 x y z w,F 2 m16 m17 m18 v1 v2 v3 x y z w → wpOp P ops Q 8 (fun a' w' => ∃ v3', a' = fillA a0 v1 v2 v3' x y z ∧ S w' ∧ F 3 m16 m17 m18 v1 v2 v3' x y z w') (fillA a0 v1 v2 v3 x y z) w)
  (h9 : ∀ k m17 m18 v1 v2 v3 x y z w,F k false m17 m18 v1 v2 v3 x y z w → wpOp P ops Q 9 (fun a' w' => ∃ x', a' = fillA a0 v1 v2 v3 x' y z ∧ S w' ∧ F k true m17 m18 v1 v2 v3 x' y z w') (fillA a0 v1 v2 v3 x y z) w)
  (h10 : ∀ k m16 m18 v1 v2 v3 x y z w,F k m16 false m18 v1 v2 v3 x y z w → wpOp P ops Q 10 (fun a' w' => ∃ y', a' = fillA a0 v1 v2 v3 x y' z ∧ S w' ∧ F k m16 true m18 v1 v2 v3 x y' z w') (fillA a0 v1 v2 v3 x y z) w)
  (h11 : ∀ k m16 m17 v1 v2 v3 x y z w,F k m16 m17 false v1 v2 v3 x y z w → wpOp P ops Q 11 (fun a' w' => ∃ z', a' = fillA a0 v1 v2 v3 x y z' ∧ S w' ∧ F k m16 m17 true v1 v2 v3 x y z' w') (fillA a0 v1 v2 v3 x y z) w)
  (hfin : ∀ v1 v2 v3 x y z w,S w → F 3 true true true v1 v2 v3 x y z w → wpAnyH P .any ops Q S 3 (gridL 3 true true true) (fillA a0 v1 v2 v3 x y z) w)
  (ha : fillA a0 undef undef undef undef undef undef = a0) (hS : S w) (hF : F 0 false false false undef undef undef undef undef undef w) :
  wpAnyH P .any ops Q S 9 (gridL 0 false false false) a0 w := by
 have := grid a0 F hr h2 h5 h8 h9 h10 h11 hfin 6 0 false false false undef undef undef undef undef undef w (by omega) rfl hS hF
 rwa [ha] at this
def RowF (w : World) (v : Value) (X Y : Int) : Prop :=
 ∃ a1 n1 c1 a2 n2 c2 a3 n3 c3 Z,v = .agg #[.slice a1 n1 c1,.slice a2 n2 c2,.slice a3 n3 c3] ∧ EV w (.slice a1 n1 c1) X 101 100 ∧ EV w (.slice a2 n2 c2) Y 101 100 ∧ EV w (.slice a3 n3 c3) Z 203 200 ∧ Z * 2 ^ unitE = X * X + Y * Y
def nilRow : Obj := .cells #[.slice none 0 0,.slice none 0 0,.slice none 0 0] 151
def NilF (w : World) (v : Value) (lo : Nat) : Prop := ∃ B,v = .pointer (some ⟨B,0,none⟩) ∧ lo ≤ B ∧ B < w.heap.size ∧ w.heap[B]? = some nilRow
theorem RowF.below {w w' : World} {v : Value} {X Y : Int} (h : RowF w v X Y) (hb : Below w.heap.size w w') : RowF w' v X Y := by
 obtain ⟨a1,n1,c1,a2,n2,c2,a3,n3,c3,Z,e,h1,h2,h3,h4⟩ := h
 exact ⟨a1,n1,c1,a2,n2,c2,a3,n3,c3,Z,e,h1.below hb,h2.below hb,h3.below hb,h4⟩
theorem NilF.below {w w' : World} {v : Value} {lo : Nat} (h : NilF w v lo) (hb : Below w.heap.size w w') : NilF w' v lo := by
 obtain ⟨B,e,h1,h2,h3⟩ := h
 exact ⟨B,e,h1,Nat.lt_of_lt_of_le h2 hb.size,(hb.block B h2).trans h3⟩
structure GF (WX : World) (X1 Y1 X2 Y2 X3 Y3 : Int) (k : Nat) (m16 m17 m18 : Bool) (v1 v2 v3 x y z : Value) (w : World) : Prop where
 bel : Below WX.heap.size WX w
 r1 : 1 ≤ k → RowF w v1 X1 Y1
 r2 : 2 ≤ k → RowF w v2 X2 Y2
 r3 : 3 ≤ k → RowF w v3 X3 Y3
 nx : m16 = true → NilF w x WX.heap.size
 ny : m17 = true → NilF w y WX.heap.size
 nz : m18 = true → NilF w z WX.heap.size
 xy : m16 = true → m17 = true → x ≠ y
 xz : m16 = true → m18 = true → x ≠ z
 yz : m17 = true → m18 = true → y ≠ z
section
variable {WX w w' : World} {X1 Y1 X2 Y2 X3 Y3 : Int} {k : Nat} {m16 m17 m18 : Bool} {v1 v2 v3 x y z : Value}
theorem GF.below (h : GF WX X1 Y1 X2 Y2 X3 Y3 k m16 m17 m18 v1 v2 v3 x y z w) (hb : Below w.heap.size w w') : GF WX X1 Y1 X2 Y2 X3 Y3 k m16 m17 m18 v1 v2 v3 x y z w' :=
 ⟨h.bel.trans (hb.mono h.bel.size),fun e => (h.r1 e).below hb,fun e => (h.r2 e).below hb,fun e => (h.r3 e).below hb,fun e => (h.nx e).below hb,fun e => (h.ny e).below hb,fun e => (h.nz e).below hb,h.xy,h.xz,h.yz⟩
theorem nil_new (w : World) (lo : Nat) (h : lo ≤ w.heap.size) : NilF (w.alloc nilRow) (.pointer (some ⟨w.heap.size,0,none⟩)) lo := ⟨_,rfl,h,by simp,heap_alloc_new _ _⟩
theorem nil_ne {v : Value} {lo : Nat} (h : NilF w v lo) : Value.pointer (some ⟨w.heap.size,0,none⟩) ≠ v := by
 obtain ⟨B,rfl,_,h2,_⟩ := h
 intro e
 injection e with e
 injection e with e
 injection e with e
 omega
theorem GF.mx (h : GF WX X1 Y1 X2 Y2 X3 Y3 k false m17 m18 v1 v2 v3 x y z w) : GF WX X1 Y1 X2 Y2 X3 Y3 k true m17 m18 v1 v2 v3 (.pointer (some ⟨w.heap.size,0,none⟩)) y z (w.alloc nilRow) := by
 have g := h.below ((Below.refl _ w).alloc (Nat.le_refl _) nilRow)
 exact ⟨g.bel,g.r1,g.r2,g.r3,fun _ => nil_new w _ h.bel.size,g.ny,g.nz,fun _ e => nil_ne (h.ny e),fun _ e => nil_ne (h.nz e),g.yz⟩
theorem GF.my (h : GF WX X1 Y1 X2 Y2 X3 Y3 k m16 false m18 v1 v2 v3 x y z w) : GF WX X1 Y1 X2 Y2 X3 Y3 k m16 true m18 v1 v2 v3 x (.pointer (some ⟨w.heap.size,0,none⟩)) z (w.alloc nilRow) := by
 have g := h.below ((Below.refl _ w).alloc (Nat.le_refl _) nilRow)
 exact ⟨g.bel,g.r1,g.r2,g.r3,g.nx,fun _ => nil_new w _ h.bel.size,g.nz,fun e _ => (nil_ne (h.nx e)).symm,g.xz,fun _ e => nil_ne (h.nz e)⟩
theorem GF.mz (h : GF WX X1 Y1 X2 Y2 X3 Y3 k m16 m17 false v1 v2 v3 x y z w) : GF WX X1 Y1 X2 Y2 X3 Y3 k m16 m17 true v1 v2 v3 x y (.pointer (some ⟨w.heap.size,0,none⟩)) (w.alloc nilRow) := by
 have g := h.below ((Below.refl _ w).alloc (Nat.le_refl _) nilRow)
 exact ⟨g.bel,g.r1,g.r2,g.r3,g.nx,g.ny,fun _ => nil_new w _ h.bel.size,g.xy,fun e _ => (nil_ne (h.nx e)).symm,fun e _ => (nil_ne (h.ny e)).symm⟩
end
end Go.Proofs.YtbagikgpgdlkcaaGreatDoor
