/- Part of the proof. No conditions. -/
import Derived.Test.YtbagikgpgdlkcaaGreatDoorZI
set_option linter.all false
set_option maxHeartbeats 8000000
set_option maxRecDepth 100000
namespace Go.Proofs.YtbagikgpgdlkcaaGreatDoor
open Go.RowKit Tvf Go.Maps Go.WideMaps
theorem low_val {S E : Int} {d q c : Nat} {r : List Nat} (hE : -200 ≤ E) (hS : S = 1 ∨ S = -1) (hd : d = q * 2 ^ c) (hq : q % 2 = 1) (hb : d < BB) : ∃ p : Nat,p % 2 = 1 ∧ (nv ⟨S,d :: r,E⟩).natAbs = p * 2 ^ (24 * E + c + 4800).toNat := by
 have hc : c < 24 := by
  apply Classical.byContradiction
  intro h
  have h1 : 2 ^ 24 ≤ 2 ^ c := Nat.pow_le_pow_right (by omega) (by omega)
  have h2 : 1 * 2 ^ c ≤ q * 2 ^ c := Nat.mul_le_mul_right _ (by omega)
  rw [BB_eq] at hb
  omega
 refine ⟨q + 2 ^ (24 - c) * mag r,?_,?_⟩
 ·rw [show 24 - c = (24 - c - 1) + 1 by omega,Nat.pow_succ,Nat.mul_comm (2 ^ (24 - c - 1)) 2,Nat.mul_assoc]
  omega
 ·have h1 : (nv ⟨S,d :: r,E⟩).natAbs = mag (d :: r) * BB ^ placeE E := by
   show (S * ((mag (d :: r) * BB ^ placeE E : Nat) : Int)).natAbs = _
   rw [Int.natAbs_mul,Int.natAbs_natCast]
   rcases hS with h | h <;> rw [h] <;> simp
  have hbb : BB = 2 ^ (24 - c) * 2 ^ c := by rw [← Nat.pow_add,show 24 - c + c = 24 by omega]; decide
  have h2 : mag (d :: r) = (q + 2 ^ (24 - c) * mag r) * 2 ^ c := by
   show d + BB * mag r = _
   rw [hd,hbb,Nat.add_mul]
   congr 1
   rw [Nat.mul_assoc,Nat.mul_assoc,Nat.mul_comm (2 ^ c)]
  have h3 : BB ^ placeE E = 2 ^ (24 * placeE E) := by rw [show BB = 2 ^ 24 by decide,← Nat.pow_mul]
  rw [h1,h2,h3,Nat.mul_assoc,← Nat.pow_add]
  unfold placeE
  rw [show c + 24 * (E + 200).toNat = (24 * E + c + 4800).toNat by omega]
theorem lowK {w : World} {u : Value} {e : Nat} {k : Int} (hu : NumK w u e k) (hk : k ≠ 0) (he : e ≤ 190) :
  Calls Tryz.prog 141 #[u] w fun r w' => ∃ n : Int,r = .returned (.int .i64 n) ∧ Hid (-10000 ≤ n ∧ n ≤ 10000 ∧ ∃ p : Nat,p % 2 = 1 ∧ k.natAbs = p * 2 ^ (n + 4800).toNat) ∧ Below w.heap.size w w' := by
 obtain ⟨x,⟨ad,ca,rfl,hdx,hca⟩,hwx,hrx,rfl⟩ := hu
 have hx0 : ¬x.S = 0 := fun e => hk (nv_s0 e)
 have HT : Hid (∀ W,Below w.heap.size w W → Calls Tryz.prog 162 #[.agg #[.int .i64 x.S,.slice ad x.D.length ca,.int .i64 x.E]] W fun r w' => ∃ (S E : Int) (D : List Nat) (d b off cz : Nat),r = .returned (.agg #[.int .i64 S,.slice (some ⟨b,off,none⟩) (D.length + 1) cz,.int .i64 E]) ∧ (∀ o,(w'.alloc o).cell? ⟨b,off,none⟩ = some (.int .i64 (d : Nat))) ∧ 0 < d ∧ Hid (d < BB ∧ (S = 1 ∨ S = -1) ∧ nv ⟨S,d :: D,E⟩ = nv x) ∧ -200 ≤ E ∧ E ≤ 200 ∧ Hid (Below W.heap.size W w')) := fun W hb => by
  refine (trim_walk (hdx.below hb) hca he hrx hwx.dig (by have := hwx.sg; omega)).mono ?_
  rintro r w' ⟨z,v,rfl,h1,h2,h3,h4,h5⟩
  obtain ⟨az,cz,rfl,h6,h7⟩ := h1.ex
  obtain ⟨S,D,E⟩ := z
  have hS : S ≠ 0 := fun e => hk (by rw [← h3]; exact nv_s0 e)
  cases D with
  | nil => exact absurd (h2.z.2 rfl) hS
  | cons d D =>
   obtain ⟨b,off,hb1,hb2,hb3⟩ := h6 (by simp)
   subst hb1
   have h0 := hb3 0 (by simp)
   have hd := h2.lead (by simp)
   simp only [List.getD_cons_zero,Nat.add_zero] at h0 hd
   refine ⟨S,E,D,d,b,off,cz,rfl,fun o => cell_al h0 o,by omega,⟨h2.dig d (List.mem_cons_self ..),by have := h2.sg; dsimp only at this; omega,h3⟩,by have := h4.lo; dsimp only at this; omega,by have := h4.hi; dsimp only at this; simp at this; omega,h5⟩
 have HB : Hid (∀ o,Below w.heap.size w (w.alloc o)) := fun o => (Below.refl _ _).alloc (Nat.le_refl _) _
 unfold NumA
 clear hdx hca hwx hrx hk
 go_enter Tryz.func141,Tryz.ntmps141
 go_wp2_with (go_at_call 162; (with_reducible refine (HT.out _ (HB.out _)).mono ?_); rintro r w1 ⟨S,E,D,d,b,off,cz,rfl,hc,hd0,HV,hE1,hE2,HBT⟩)
 go_loop [4,5] (fun s4 s5 => ∃ (c q : Nat),Hid (d = q * 2 ^ c) ∧ 0 < q ∧ q < 16777217 ∧ c ≤ 100 ∧ s4 = .int .i64 (24 * E + c) ∧ s5 = .int .i64 q) (fun _ s5 => (intOf s5).toNat)
 case atStart => exact ⟨0,d,by unfold Hid; simp,hd0,by have := HV.out.1; rw [BB_eq] at this; omega,by omega,by simp,rfl⟩
 case round =>
  obtain ⟨c,q,hdq,hq0,hqb,hcb,rfl,rfl⟩ := hrel
  have hc24 : c ≤ 24 := by
   apply Classical.byContradiction
   intro h
   have h1 : 2 ^ 25 ≤ 2 ^ c := Nat.pow_le_pow_right (by omega) (by omega)
   have h2 : 1 * 2 ^ c ≤ q * 2 ^ c := Nat.mul_le_mul_right _ (by omega)
   have h3 := HV.out.1
   rw [BB_eq] at h3
   have h4 := hdq.out
   omega
  by_cases hq : q % 2 = 0
  ·have hm : (q : Int).tmod 2 = 0 := by rw [Int.tmod_eq_emod_of_nonneg (by omega)]; omega
   have hm2 : (q : Int) % 2 = 0 := by omega
   have HQ := Lib.hid hq
   clear hq
   go_wp2
   go_round
   case rel =>
    refine ⟨c + 1,q / 2,?_,by have := HQ.out; omega,by omega,by omega,by simp [Int.add_assoc],by simp⟩
    unfold Hid
    rw [Nat.pow_succ,Nat.mul_comm _ 2,← Nat.mul_assoc,Nat.div_mul_cancel (Nat.dvd_of_mod_eq_zero HQ.out)]
    exact hdq.out
   case measure => have := HQ.out; simp only [intOf]; omega
  ·have hm : (q : Int).tmod 2 = 1 := by rw [Int.tmod_eq_emod_of_nonneg (by omega)]; omega
   have hm2 : (q : Int) % 2 = 1 := by omega
   have HQ := Lib.hid hq
   clear hq
   go_wp2
   go_ret
   have hb := HB.out (.cells #[.int .i64 x.S,.slice ad x.D.length ca,.int .i64 x.E] 124)
   have hb2 := hb.trans (HBT.out.mono hb.size)
   obtain ⟨h1,h2,h3⟩ := HV.out
   have := low_val (r := D) hE1 h2 hdq.out (by have := HQ.out; omega) h1
   rw [h3] at this
   exact ⟨_,rfl,⟨by omega,by omega,this⟩,hb2.alloc hb2.size _⟩
def NumR (e : Nat) (k : Int) (W : World) (r : Ending) (w' : World) : Prop := ∃ (ee : Int) (ad : Option Addr) (l c : Nat),r = .returned (.agg #[.int .i64 (sgnI k),.slice ad l c,.int .i64 ee]) ∧ Hid (NumK w' (.agg #[.int .i64 (sgnI k),.slice ad l c,.int .i64 ee]) e k) ∧ Hid (Below W.heap.size W w')
theorem numR {f : FuncId} {args : Array Value} {w : World} {e : Nat} {k : Int} (h : Calls Tryz.prog f args w fun r w' => ∃ z,r = .returned z ∧ NumK w' z e k ∧ Below w.heap.size w w') : Calls Tryz.prog f args w (NumR e k w) := by
 refine h.mono ?_
 rintro r w' ⟨z,rfl,hz,hb⟩
 obtain ⟨s,ee,dd,l,c,rfl,rfl⟩ := hz.agg
 exact ⟨ee,dd,l,c,rfl,hz,hb⟩
theorem NumR.keep {W w' : World} {v : Value} {e' : Nat} {k' : Int} (h : NumK W v e' k') (hb : Hid (Below W.heap.size W w')) : NumK w' v e' k' := h.below hb.out
theorem bseq {w w1 w2 : World} (h1 : Below w.heap.size w w1) (h2 : Below w1.heap.size w1 w2) : Below w.heap.size w w2 := h1.trans (h2.mono h1.size)
theorem low_gen {z p e G U F : Nat} (hp : p % 2 = 1) (hF : F = G + U) (h : z * 2 ^ U = p * 2 ^ e) : F ≤ e ↔ z % 2 ^ G = 0 := by
 have hFe : (2 : Nat) ^ F = 2 ^ G * 2 ^ U := by rw [hF,Nat.pow_add]
 constructor
 ·intro hn
  have h1 : z * 2 ^ U = (p * 2 ^ (e - F) * 2 ^ G) * 2 ^ U := by
   rw [h,Nat.mul_assoc (p * _),← hFe,Nat.mul_assoc,← Nat.pow_add,show e - F + F = e by omega]
  have h2 := Nat.eq_of_mul_eq_mul_right (Nat.two_pow_pos U) h1
  rw [h2,Nat.mul_mod_left]
 ·intro hm
  apply Classical.byContradiction
  intro hn
  obtain ⟨q,hq⟩ := Nat.dvd_of_mod_eq_zero hm
  have h2 : q * 2 ^ (F - e) * 2 ^ e = p * 2 ^ e := by
   rw [Nat.mul_assoc,← Nat.pow_add,show F - e + e = F by omega,hFe,← h,hq,Nat.mul_comm (2 ^ G) q,Nat.mul_assoc]
  have h3 := Nat.eq_of_mul_eq_mul_right (Nat.two_pow_pos _) h2
  rw [show F - e = (F - e - 1) + 1 by omega,Nat.pow_succ,← Nat.mul_assoc] at h3
  omega
theorem low_100 {n : Int} {z : Nat} {p : Nat} (hp : p % 2 = 1) (h : z * 2 ^ 3726 = p * 2 ^ (n + 4800).toNat) (h1 : -10000 ≤ n) : decide (-100 ≤ n) = decide (z % 2 ^ gridE = 0) := by
 apply decide_eq_decide.2
 have hF : 4700 = gridE + 3726 := by rw [gridE_eq]
 have := low_gen hp hF h
 clear h
 constructor
 ·intro hn; exact this.1 (by omega)
 ·intro hn; have := this.2 hn; omega
theorem one_pow_split (a b n : Nat) (h : n = a + b) : (1 : Int) * 2 ^ n = ((2 ^ a * 2 ^ b : Nat) : Int) := by
 subst h
 rw [Int.one_mul,← Nat.pow_add,Int.natCast_pow]
 rfl
theorem coord05_main {x : Nat} {w : World} (hx : fin x) (h0 : fval x ≠ 0) :
  Calls Tryz.prog 105 #[.float .f64 x] w fun r w' => r = .returned (.bool (decide ((fval x).natAbs ≤ 2 ^ (unitE + 100)) && decide ((fval x).natAbs % 2 ^ gridE = 0))) ∧ Below w.heap.size w w' := by
 have hz : fin 0 := by unfold fin; omega
 have hz0 : fval 0 = 0 := by decide
 have hsub := fsub_val hx hx (by rw [Int.sub_self]; exact inReach_le (k := 1) (by decide) (by rw [top_eq]; decide))
 have e1 : fne x x = false := by rw [fne_val hx hx]; simp
 have e2 : fne (fsub x x) 0 = false := by rw [fne_val hsub.1 hz,hsub.2,hz0,Int.sub_self,rn_zero]; simp
 have e3 : feq x 0 = false := by rw [feq_val hx hz,hz0]; simpa using h0
 obtain ⟨k,hk⟩ : ∃ k,Hid (fval x * 2 ^ 3726 = k) := ⟨fval x * 2 ^ 3726,rfl⟩
 have HOF : Hid (Calls Tryz.prog 137 #[.float .f64 x] w (NumR 180 k w)) := by have := ofK_any (w := w) hx; rw [hk.out] at this; exact numR this
 have HAB : Hid (∀ W v,NumK W v 180 k → Calls Tryz.prog 139 #[v] W (NumR 180 (k.natAbs : Int) W)) := fun W v h => numR (by refine (absK h).mono ?_; rintro r w' ⟨z,rfl,h1,h2⟩; exact ⟨z,rfl,h1.out,h2.out⟩)
 obtain ⟨P,hP⟩ : ∃ P : Int,Hid ((1 : Int) * 2 ^ (4900 : Nat) = P) := ⟨1 * 2 ^ (4900 : Nat),rfl⟩
 have HPW : Hid (∀ W,Calls Tryz.prog 140 #[.int .u64 1,.int .i64 100] W (NumR 180 P W)) := fun W => numR (by
  have := power_walk (n0 := 1) (k0 := 100) (e := 180) (w := W) (by omega) (by omega) (by omega) (by omega)
  rw [show ((100 : Int) + 4800).toNat = 4900 from rfl] at this
  rw [← hP.out]
  exact this)
 have HCM : Hid (∀ W u v,NumK W u 180 (k.natAbs : Int) → NumK W v 180 P → Calls Tryz.prog 138 #[u,v] W fun r w' => r = .returned (.int .i64 (sgnI ((k.natAbs : Int) - P))) ∧ Hid (Below W.heap.size W w')) := fun W u v hu hv => cmpK hu hv (by omega)
 have hk0 : k ≠ 0 := by
  rw [← hk.out]
  intro e
  rcases Int.mul_eq_zero.1 e with e | e
  ·exact h0 e
  ·exact absurd e (Int.ne_of_gt (Int.pow_pos (by omega)))
 have HLO : Hid (∀ W v,NumK W v 180 k → Calls Tryz.prog 141 #[v] W fun r w' => ∃ n : Int,r = .returned (.int .i64 n) ∧ decide (-100 ≤ n) = decide ((fval x).natAbs % 2 ^ gridE = 0) ∧ Hid (Below W.heap.size W w')) := fun W v h => by
  refine (lowK h hk0 (by omega)).mono ?_
  rintro r w' ⟨n,rfl,hn,hb⟩
  obtain ⟨h1,h2,p,h3,h4⟩ := hn.out
  refine ⟨n,rfl,low_100 h3 ?_ h1,hb⟩
  rw [← h4,← hk.out,Int.natAbs_mul,natAbs_two_pow]
 have HLE : Hid (sgnI ((k.natAbs : Int) - P) ≤ 0 ↔ (fval x).natAbs ≤ 2 ^ (unitE + 100)) := by
  have hu := unitE_eq
  have e1 : k.natAbs = (fval x).natAbs * 2 ^ 3726 := by rw [← hk.out,Int.natAbs_mul,natAbs_two_pow]
  have e2 : P = ((2 ^ (unitE + 100) * 2 ^ 3726 : Nat) : Int) := hP.out.symm.trans (one_pow_split (unitE + 100) 3726 4900 (by rw [hu]))
  have h1 : sgnI ((k.natAbs : Int) - P) ≤ 0 ↔ (k.natAbs : Int) ≤ P := by unfold sgnI; split <;> (try split) <;> omega
  unfold Hid
  rw [h1,e1,e2,Int.ofNat_le]
  exact Nat.mul_le_mul_right_iff (Nat.two_pow_pos 3726)
 clear h0 hsub hz0 hk0
 generalize decide ((fval x).natAbs % 2 ^ gridE = 0) = G at *
 generalize sgnI ((k.natAbs : Int) - P) = C at *
 have hbw : Hid (∀ W o,Below W.heap.size W (World.alloc W o)) := fun W o => (Below.refl _ _).alloc (Nat.le_refl _) _
 by_cases hC : C ≤ 0
 ·rw [decide_eq_true (HLE.out.1 hC),Bool.true_and]
  go_enter Tryz.func105,Tryz.ntmps105
  go_wp2_with (first
   |(go_at_call 137; (with_reducible refine HOF.out.mono ?_); rintro r w1 ⟨ee,ad,l,c,rfl,HZ1,HB1⟩; have HN1 := Lib.hid (HZ1.out.below (hbw.out w1 (.cells #[.int .i64 (sgnI k),.slice ad l c,.int .i64 ee] 124))); have HX1 := Lib.hid (Box3.new w1 (.int .i64 (sgnI k)) (.slice ad l c) (.int .i64 ee) 124); have n1 := HX1.out.c; obtain ⟨n10,n11,n12⟩ := n1)
   |(go_at_call 139; (with_reducible refine (HAB.out _ _ HN1.out).mono ?_); rintro r w2 ⟨ee2,ad2,l2,c2,rfl,HZ2,HB2⟩)
   |(go_at_call 140; (with_reducible refine (HPW.out _).mono ?_); rintro r w3 ⟨ee3,ad3,l3,c3,rfl,HZ3,HB3⟩)
   |(go_at_call 138; (with_reducible refine (HCM.out _ _ _ (NumR.keep HZ2.out HB3) HZ3.out).mono ?_); rintro r w4 ⟨rfl,HB4⟩; have HX4 := Lib.hid (((HX1.out.below HB2.out).below HB3.out).below HB4.out); obtain ⟨n40,n41,n42⟩ := HX4.out.c; have HN4 := Lib.hid (((HN1.out.below HB2.out).below HB3.out).below HB4.out))
   |(go_at_call 141; (with_reducible refine (HLO.out _ _ HN4.out).mono ?_); rintro r w5 ⟨n,rfl,hn,HB5⟩))
  go_ret
  exact ⟨rfl,bseq (bseq (bseq (bseq (bseq HB1.out (hbw.out _ _)) HB2.out) HB3.out) HB4.out) HB5.out⟩
 ·rw [decide_eq_false (fun h => hC (HLE.out.2 h)),Bool.false_and]
  go_enter Tryz.func105,Tryz.ntmps105
  go_wp2_with (first
   |(go_at_call 137; (with_reducible refine HOF.out.mono ?_); rintro r w1 ⟨ee,ad,l,c,rfl,HZ1,HB1⟩; have HN1 := Lib.hid (HZ1.out.below (hbw.out w1 (.cells #[.int .i64 (sgnI k),.slice ad l c,.int .i64 ee] 124))); have HX1 := Lib.hid (Box3.new w1 (.int .i64 (sgnI k)) (.slice ad l c) (.int .i64 ee) 124); have n1 := HX1.out.c; obtain ⟨n10,n11,n12⟩ := n1)
   |(go_at_call 139; (with_reducible refine (HAB.out _ _ HN1.out).mono ?_); rintro r w2 ⟨ee2,ad2,l2,c2,rfl,HZ2,HB2⟩)
   |(go_at_call 140; (with_reducible refine (HPW.out _).mono ?_); rintro r w3 ⟨ee3,ad3,l3,c3,rfl,HZ3,HB3⟩)
   |(go_at_call 138; (with_reducible refine (HCM.out _ _ _ (NumR.keep HZ2.out HB3) HZ3.out).mono ?_); rintro r w4 ⟨rfl,HB4⟩))
  go_ret
  exact ⟨rfl,bseq (bseq (bseq (bseq HB1.out (hbw.out _ _)) HB2.out) HB3.out) HB4.out⟩
theorem coord05_zero {x : Nat} {w : World} (hx : fin x) (h0 : fval x = 0) :
  Calls Tryz.prog 105 #[.float .f64 x] w fun r w' => r = .returned (.bool true) ∧ Below w.heap.size w w' := by
 have hz : fin 0 := by unfold fin; omega
 have hz0 : fval 0 = 0 := by decide
 have hsub := fsub_val hx hx (by rw [Int.sub_self]; exact inReach_le (k := 1) (by decide) (by rw [top_eq]; decide))
 have e1 : fne x x = false := by rw [fne_val hx hx]; simp
 have e2 : fne (fsub x x) 0 = false := by rw [fne_val hsub.1 hz,hsub.2,hz0,Int.sub_self,rn_zero]; simp
 have e3 : feq x 0 = true := by rw [feq_val hx hz,hz0]; simpa using h0
 clear h0 hsub hz0
 go_enter Tryz.func105,Tryz.ntmps105
 go_wp2
 go_ret
 exact ⟨rfl,Below.refl _ _⟩
theorem unfin_read {x : Nat} (hx : ¬fin x) (h64 : x < 2 ^ 64) : (∃ s,D.read x = .infinity s) ∨ (∃ a b,D.read x = .nan a b) := by
 have hr : 2047 * 2 ^ 52 ≤ x % 2 ^ 63 := by
  apply Classical.byContradiction; intro h; exact hx ⟨h64,by omega⟩
 unfold Ieee.Format.read
 rw [signWeight_d,binade_d,infRung_d,leastPlace_d]
 simp only []
 rw [if_neg (by omega),if_neg (by omega)]
 split
 ·exact .inl ⟨_,rfl⟩
 ·exact .inr ⟨_,_,rfl⟩
theorem nan_fne {x y : Nat} (h : ∃ a b,D.read x = .nan a b) : fne x y = true := by
 obtain ⟨a,b,h⟩ := h
 unfold fne Ieee.Format.order
 rw [h]
 cases D.read y <;> rfl
theorem inf_feq {x : Nat} {s : Bool} (h : D.read x = .infinity s) : fne x x = false := by
 unfold fne Ieee.Format.order
 rw [h]
 cases s <;> rfl
theorem inf_sub {x : Nat} {s : Bool} (h : D.read x = .infinity s) : D.sub x x = none := by
 unfold Ieee.Format.sub
 rw [h]
 cases s <;> rfl
def nanW (w : World) (x : Nat) : Nat := (Question.nanBits .f64 x x).cut (w.tape w.drawn (.nanBits .f64 x x))
theorem nanW_read (w : World) (x : Nat) : ∃ a b,D.read (nanW w x) = .nan a b := by
 obtain ⟨a,b,ha,hb,h⟩ : ∃ a b : Nat,a < 2 ∧ b < 2 ^ 52 - 1 ∧ nanW w x = a * 2 ^ 63 + 9218868437227405312 + 1 + b := ⟨_,_,Nat.mod_lt _ (by decide),Nat.mod_lt _ (by decide),rfl⟩
 rw [h]
 unfold Ieee.Format.read
 rw [signWeight_d,binade_d,infRung_d,leastPlace_d]
 simp only []
 rw [if_neg (by omega),if_neg (by omega),if_neg (by omega)]
 exact ⟨_,_,rfl⟩
theorem run_sub_inf {x : Nat} (t : TypeId) (h : D.sub x x = none) (w : World) : (binOp .sub t (.float .f64 x) (.float .f64 x)).run Tryz.prog w = .ok (.float .f64 (nanW w x)) w.drew := by
 show (Op.floatArith .sub .f64 x x).run Tryz.prog w = _
 unfold Op.floatArith
 have h2 : FloatKind.f64.format.sub x x = none := h
 simp only [h2]
 have hf : (Question.nanBits .f64 x x).forced = false := rfl
 simp [run_choose_drew,hf]
 rfl
theorem coord05_nan {x : Nat} {w : World} (hr : ∃ a b,D.read x = .nan a b) :
  Calls Tryz.prog 105 #[.float .f64 x] w fun r w' => r = .returned (.bool false) ∧ Below w.heap.size w w' := by
 have e1 : fne x x = true := nan_fne hr
 clear hr
 go_enter Tryz.func105,Tryz.ntmps105
 go_wp2
 go_ret
 exact ⟨rfl,Below.refl _ _⟩
theorem coord05_inf {x : Nat} {s : Bool} {w : World} (hr : D.read x = .infinity s) :
  Calls Tryz.prog 105 #[.float .f64 x] w fun r w' => r = .returned (.bool false) ∧ Below w.heap.size w w' := by
 have e1 : fne x x = false := inf_feq hr
 have e2 : ∀ w,fne (nanW w x) 0 = true := fun w => nan_fne (nanW_read w x)
 have e4 := fun w => run_sub_inf 66 (inf_sub hr) w
 clear hr
 go_enter Tryz.func105,Tryz.ntmps105
 go_wp2
 go_ret
 exact ⟨rfl,(Below.refl _ _).drew⟩
theorem coord05 {x : Nat} {w : World} (h64 : x < 2 ^ 64) :
  Calls Tryz.prog 105 #[.float .f64 x] w fun r w' => r = .returned (.bool (coordB x)) ∧ Below w.heap.size w w' := by
 by_cases hx : fin x
 ·have hB : coordB x = (decide ((fval x).natAbs ≤ 2 ^ (unitE + 100)) && decide ((fval x).natAbs % 2 ^ gridE = 0)) := by
   unfold coordB
   rw [fle_val (fin_abs hx) fin_c100,fval_abs,fval_c100]
   congr 1
   apply decide_eq_decide.2
   have cast : ((2 ^ (unitE + 100) : Nat) : Int) = (2 : Int) ^ (unitE + 100) := by simp
   rw [← cast]
   exact Int.ofNat_le
  by_cases h0 : fval x = 0
  ·have : coordB x = true := by rw [hB,h0]; simp
   rw [this]
   exact coord05_zero hx h0
  ·rw [hB]
   exact coord05_main hx h0
 ·have hB : coordB x = false := by
   unfold coordB
   cases h : fle (x % 2 ^ 63) 5057542381537067008
   ·rfl
   ·exact absurd (fin_of_le h64 h) hx
  rw [hB]
  rcases unfin_read hx h64 with ⟨s,h⟩ | h
  ·exact coord05_inf h
  ·exact coord05_nan h
theorem may05 {p : Pt} {w : World} (hp : pt64 p) :
  Calls Tryz.prog 81 #[.agg #[.float .f64 p.1,.float .f64 p.2]] w fun r w' => r = .returned (.bool (ptOK p)) ∧ Below w.heap.size w w' := by
 have H1 : Hid (∀ w,Calls Tryz.prog 105 #[.float .f64 p.1] w fun r w' => r = .returned (.bool (coordB p.1)) ∧ Hid (Below w.heap.size w w')) := fun w => coord05 hp.1
 have H2 : Hid (∀ w,Calls Tryz.prog 105 #[.float .f64 p.2] w fun r w' => r = .returned (.bool (coordB p.2)) ∧ Hid (Below w.heap.size w w')) := fun w => coord05 hp.2
 unfold ptOK
 cases h : coordB p.1
 all_goals
  rw [h] at H1
  clear h hp
  go_enter Tryz.func81,Tryz.ntmps81
  go_wp2_with (first
   |(go_at_call 105; (with_reducible refine (H1.out _).mono ?_); rintro r w1 ⟨rfl,HB1⟩; have c1 : w1.cell? ⟨w.heap.size,1,none⟩ = some (.float .f64 p.2) := ((BoxN.new w #[.float .f64 p.1,.float .f64 p.2] 68).below HB1.out).c 1)
   |(go_at_call 105; (with_reducible refine (H2.out _).mono ?_); rintro r w2 ⟨rfl,HB2⟩))
  go_ret
  first
   | exact ⟨rfl,bseq (bseq ((Below.refl _ _).alloc (Nat.le_refl _) _) HB1.out) HB2.out⟩
   | exact ⟨rfl,bseq ((Below.refl _ _).alloc (Nat.le_refl _) _) HB1.out⟩
theorem less05 {x y : Nat} {w : World} (hx : x < 2 ^ 64 ∧ coordB x = true) (hy : y < 2 ^ 64 ∧ coordB y = true) :
  Calls Tryz.prog 124 #[.float .f64 x,.float .f64 y] w (NumR 8 ((fval x - fval y) * 2 ^ 3726) w) := by
 obtain ⟨a,ha⟩ : ∃ a,Hid (fval x * 2 ^ 3726 = a) := ⟨fval x * 2 ^ 3726,rfl⟩
 obtain ⟨b,hb⟩ : ∃ b,Hid (fval y * 2 ^ 3726 = b) := ⟨fval y * 2 ^ 3726,rfl⟩
 have HX : Hid (∀ W,Calls Tryz.prog 137 #[.float .f64 x] W (NumR 7 a W)) := fun W => numR (by have := ofK_may (w := W) hx.1 hx.2; rw [ha.out] at this; exact this)
 have HY : Hid (∀ W,Calls Tryz.prog 137 #[.float .f64 y] W (NumR 7 b W)) := fun W => numR (by have := ofK_may (w := W) hy.1 hy.2; rw [hb.out] at this; exact this)
 have HS : Hid (∀ W u v,NumK W u 7 a → NumK W v 7 b → Calls Tryz.prog 125 #[u,v] W (NumR 8 (a - b) W)) := fun W u v hu hv => numR (by refine (subK hu hv (by omega)).mono ?_; rintro r w' ⟨z,rfl,h1,h2⟩; exact ⟨z,rfl,h1.out,h2.out⟩)
 rw [Int.sub_mul,ha.out,hb.out]
 clear hx hy
 go_enter Tryz.func124,Tryz.ntmps124
 go_wp2_with (first
  |(go_at_call 137; (with_reducible refine (HX.out _).mono ?_); rintro r w1 ⟨ee1,ad1,l1,c1,rfl,HZ1,HB1⟩)
  |(go_at_call 137; (with_reducible refine (HY.out _).mono ?_); rintro r w2 ⟨ee2,ad2,l2,c2,rfl,HZ2,HB2⟩)
  |(go_at_call 125; (with_reducible refine (HS.out _ _ _ (NumR.keep HZ1.out HB2) HZ2.out).mono ?_); rintro r w3 ⟨ee3,ad3,l3,c3,rfl,HZ3,HB3⟩; have HX3 := Lib.hid ((((Box3.new w (.int .i64 0) (.slice none 0 0) (.int .i64 0) 124).below HB1.out).below HB2.out).below HB3.out); obtain ⟨n0,n1,n2⟩ := HX3.out.c; have f0 := HX3.out.fz 0; have f1 := HX3.out.fz 1; have f2 := HX3.out.fz 2))
 obtain ⟨g0,g1,g2⟩ := (HX3.out.put (.int .i64 (sgnI (a - b))) (.slice ad3 l3 c3) (.int .i64 ee3)).c
 refine bodyPost_ret (by simp [results,Tryz.results124,go_sem,g0,g1,g2]; try rfl) rfl ?_
 exact ⟨_,_,_,_,rfl,HZ3.out.put HX3.out _ _ _,(((bseq (bseq (bseq ((Below.refl _ w).alloc (Nat.le_refl _) _) HB1.out) HB2.out) HB3.out).setCell (p := ⟨w.heap.size,0,none⟩) (Nat.le_refl _) _).setCell (p := ⟨w.heap.size,1,none⟩) (Nat.le_refl _) _).setCell (p := ⟨w.heap.size,2,none⟩) (Nat.le_refl _) _⟩
theorem bb_pow (n : Nat) : BB ^ n = 2 ^ (24 * n) := by
 rw [show BB = 2 ^ 24 by decide,← Nat.pow_mul]
theorem bb_cast (n : Nat) : ((BB ^ n : Nat) : Int) = 2 ^ (24 * n) := by
 rw [bb_pow]
 exact Int.natCast_pow 2 (24 * n)
theorem turn_val {a b c : Pt} {p q : Int} (hp : p * (BB ^ 200 : Nat) = ((fval b.1 - fval a.1) * 2 ^ 3726) * ((fval c.2 - fval a.2) * 2 ^ 3726)) (hq : q * (BB ^ 200 : Nat) = ((fval b.2 - fval a.2) * 2 ^ 3726) * ((fval c.1 - fval a.1) * 2 ^ 3726)) : sgnI (p - q) = sgnI (det a b c) := by
 have h1 : (p - q) * (BB ^ 200 : Nat) = det a b c * 2 ^ 7452 := by
  rw [Int.sub_mul,hp,hq]
  unfold det
  rw [show (2 : Int) ^ 7452 = 2 ^ 3726 * 2 ^ 3726 by rw [← Int.pow_add]]
  have e : ∀ p q r s z : Int,p * z * (q * z) - r * z * (s * z) = (p * q - r * s) * (z * z) := by intro p q r s z; grind
  exact e _ _ _ _ _
 have hb := bb_cast 200
 rw [hb] at h1
 rw [← sgnI_mul (z := p - q) (k := 24 * 200),h1,sgnI_mul]
theorem beside {P : Program} {ops : Array Oper} {Q : Exit → Act → World → Prop} {S : World → Prop} {N f0 : Nat} {c : Nat → Nat} {j : Nat} {L : Nat → Bool → Array Bool} (F : Nat → Bool → Act → World → Prop)
  (hr : ∀ k m,k ≤ N → (k = N ∧ m = true) ∨ (Region.ready .any ops (L k m) ≠ [] ∧ ∀ i ∈ Region.ready .any ops (L k m),(i = c k ∧ k < N) ∨ (i = j ∧ m = false)))
  (hL1 : ∀ k m,k < N → (L k m).setIfInBounds (c k) true = L (k + 1) m)
  (hL2 : ∀ k,k ≤ N → (L k false).setIfInBounds j true = L k true)
  (hc : ∀ k m a w,k < N → F k m a w → wpOp P ops Q (c k) (fun a' w' => S w' ∧ F (k + 1) m a' w') a w)
  (hj : ∀ k a w,k ≤ N → F k false a w → wpOp P ops Q j (fun a' w' => S w' ∧ F k true a' w') a w)
  (hfin : ∀ a w,S w → F N true a w → wpAnyH P .any ops Q S f0 (L N true) a w) :
  ∀ n k m a w,k ≤ N → n = N - k + (if m then 0 else 1) → S w → F k m a w → wpAnyH P .any ops Q S (n + f0) (L k m) a w := by
 have mono : ∀ {i : Nat} {K K' : Act → World → Prop} {a : Act} {w : World},(∀ a w,K a w → K' a w) → wpOp P ops Q i K a w → wpOp P ops Q i K' a w := fun h => wpOp_mono h
 intro n
 induction n with
 | zero =>
  intro k m a w hk hn hS hF
  have e : k = N ∧ m = true := by cases m <;> simp at hn ⊢ <;> omega
  obtain ⟨rfl,rfl⟩ := e
  rw [Nat.zero_add]
  exact hfin a w hS hF
 | succ n ih =>
  intro k m a w hk hn hS hF
  obtain ⟨h1,h2⟩ := (hr k m hk).resolve_left (by rintro ⟨rfl,rfl⟩; simp at hn)
  rw [show n + 1 + f0 = (n + f0) + 1 by omega]
  refine ⟨fun h0 => absurd h0 h1,fun i hi => ?_⟩
  rcases h2 i hi with ⟨rfl,hk2⟩ | ⟨rfl,rfl⟩
  ·refine mono (fun a' w' ⟨s,f⟩ => ⟨s,?_⟩) (hc k m a w hk2 hF)
   rw [hL1 k m hk2]
   exact ih (k + 1) m a' w' hk2 (by omega) s f
  ·refine mono (fun a' w' ⟨s,f⟩ => ⟨s,?_⟩) (hj k a w hk hF)
   rw [hL2 k hk]
   exact ih k true a' w' hk (by simp at hn ⊢; omega) s f
end Go.Proofs.YtbagikgpgdlkcaaGreatDoor
