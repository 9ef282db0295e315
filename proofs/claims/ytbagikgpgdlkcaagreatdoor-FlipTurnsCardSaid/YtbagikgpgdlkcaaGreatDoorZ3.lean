/- Part of the proof. No conditions. -/
import Derived.Test.YtbagikgpgdlkcaaGreatDoorZ2
set_option linter.all false
set_option maxHeartbeats 8000000
set_option maxRecDepth 100000
namespace Go.Proofs.YtbagikgpgdlkcaaGreatDoor
open Go.RowKit Tvf
theorem to_u64 {x M : Nat} (hx : fin x) (hv : fval x = (M : Int) * 2 ^ unitE) (hM : M < 2 ^ 63) : floatToIntVal .f64 x .u64 = some (M : Int) := by
 obtain ⟨m,k,e1,v1,hm⟩ := read_fin hx
 have hab : m * 2 ^ k = M * 2 ^ unitE := by
  have := natAbs_fval x
  rw [hv,Int.natAbs_mul,natAbs_two_pow,v1] at this
  simpa using this.symm
 have hz : M = 0 ∨ fneg x = false := by
  by_cases h0 : M = 0
  ·exact Or.inl h0
  ·right
   cases h : fneg x
   ·rfl
   ·have h1 : fval x = -(mg (x % 2 ^ 63) : Int) := by unfold fval; rw [h]; rfl
    have h2 : 0 < (M : Int) * 2 ^ unitE := Int.mul_pos (by omega) (Int.pow_pos (by omega))
    omega
 unfold floatToIntVal
 have hd : FloatKind.f64.decode x = .number (fneg x) m (-1074 + (k : Int)) := e1
 rw [hd]
 unfold Ieee.Datum.toInt Ieee.Datum.integral
 simp only [cut_zero,Nat.shiftLeft_eq]
 have hmag : m * 2 ^ (-1074 + (k : Int)).toNat / 2 ^ (-(-1074 + (k : Int))).toNat = M := by
  have hu := unitE_eq
  by_cases hk : unitE ≤ k
  ·rw [show (-1074 + (k : Int)).toNat = k - unitE by omega,show (-(-1074 + (k : Int))).toNat = 0 by omega,Nat.pow_zero,Nat.div_one]
   have : m * 2 ^ (k - unitE) * 2 ^ unitE = M * 2 ^ unitE := by
    rw [Nat.mul_assoc,← Nat.pow_add,show k - unitE + unitE = k by omega]; exact hab
   exact Nat.eq_of_mul_eq_mul_right (two_pow_pos _) this
  ·rw [show (-1074 + (k : Int)).toNat = 0 by omega,show (-(-1074 + (k : Int))).toNat = unitE - k by omega,Nat.pow_zero,Nat.mul_one]
   have : m * 2 ^ k = M * 2 ^ (unitE - k) * 2 ^ k := by
    rw [Nat.mul_assoc,← Nat.pow_add,show unitE - k + k = unitE by omega]; exact hab
   have := Nat.eq_of_mul_eq_mul_right (two_pow_pos k) this
   rw [this,Nat.mul_div_cancel _ (two_pow_pos _)]
 rw [hmag,signed_eq,Nat.pow_zero,Nat.mul_one]
 have hs : sgn (fneg x) M = (M : Int) := by
  rcases hz with h | h
  ·subst h; unfold sgn; split <;> rfl
  ·rw [h]; rfl
 rw [hs]
 show (if IntKind.u64.min ≤ (M : Int) ∧ (M : Int) ≤ IntKind.u64.max then some (M : Int) else none) = _
 rw [if_pos]
 show (0 : Int) ≤ (M : Int) ∧ (M : Int) ≤ 2 ^ 64 - 1
 omega
theorem and_1u (n : Nat) (h : n < 2 ^ 64) : bits .and .u64 (n : Int) 1 = ((n % 2 : Nat) : Int) := by
 rw [u64_and _ _ (by omega) (by omega) (by omega) (by omega)]
 show ((n &&& (2 ^ 1 - 1) : Nat) : Int) = _
 rw [Nat.and_two_pow_sub_one_eq_mod]
def LowOf (z r : Int) : Prop := ∃ (v : Nat) (q : Int),r = 2 ^ v ∧ z = q * 2 ^ v ∧ q % 2 = 1
theorem low_walk (x : Nat) (h64 : x < 2 ^ 64) (f g M t : Nat) (R : Nat → Nat)
  (hc : ∀ w,Calls Tryz.prog 188 #[.float .f64 (x % 2 ^ 63)] w fun e w' => e = .returned (.tuple #[.float .f64 f,.int .i64 ((t : Int) - 1073)]) ∧ w = w')
  (hc2 : ∀ w,Calls Tryz.prog 184 #[.float .f64 f,.int .i64 53] w fun e w' => e = .returned (.float .f64 g) ∧ w = w')
  (hg : ∀ w,(convert 66 171 (.float .f64 g)).run Tryz.prog w = .ok (.int .u64 (M : Int)) w)
  (hM0 : 0 < M) (hM1 : M < 2 ^ 53) (ht : t < 2 ^ 12)
  (hr : ∀ n c : Nat,M = n * 2 ^ c → n % 2 = 1 → ∀ w,Calls Tryz.prog 184 #[.float .f64 4607182418800017408,.int .i64 ((t : Int) - 1126 + c)] w fun e w' => e = .returned (.float .f64 (R c)) ∧ w = w') (w : World) :
  Calls Tryz.prog 194 #[.float .f64 x] w fun e w' => (∃ n c : Nat,M = n * 2 ^ c ∧ n % 2 = 1 ∧ e = .returned (.float .f64 (R c))) ∧ w = w' := by
 have HC := Lib.hid hc
 have HC2 := Lib.hid hc2
 have HR := Lib.hid hr
 clear hc hc2 hr
 go_enter Tryz.func194,Tryz.ntmps194
 go_wp2_with (first | (go_at_call 130; refine (abs_any _ h64 _).mono ?_; rintro e w' ⟨rfl,rfl⟩) | (go_at_call 188; refine (HC.out _).mono ?_; rintro e w' ⟨rfl,rfl⟩) | (go_at_call 184; refine (HC2.out _).mono ?_; rintro e w' ⟨rfl,rfl⟩))
 go_loop [4,5] (fun e n => ∃ c k : Nat,M = k * 2 ^ c ∧ 0 < k ∧ c < 2 ^ 12 ∧ e = .int .i64 ((t : Int) - 1126 + c) ∧ n = .int .u64 (k : Int)) (fun _ n => (intOf n).toNat)
 case atStart => exact ⟨0,M,by simp,hM0,by omega,by go_num,rfl⟩
 case round =>
  obtain ⟨c,k,hk,hk0,hc12,rfl,rfl⟩ := hrel
  have hkM : k ≤ M := by rw [hk]; exact Nat.le_mul_of_pos_right _ (two_pow_pos c)
  have hcb : c ≤ 53 := by
   apply Classical.byContradiction; intro hcc
   have h1 : 2 ^ 54 ≤ 2 ^ c := Nat.pow_le_pow_right (by omega) (by omega)
   have h2 : 2 ^ c ≤ M := by rw [hk]; exact Nat.le_mul_of_pos_left _ hk0
   omega
  have hk53 : k < 2 ^ 53 := by omega
  by_cases hp : k % 2 = 0
  ·have H := and_1u k (by omega)
   rw [hp] at H
   have hk2 : M = (k / 2) * 2 ^ (c + 1) := by
    rw [Nat.pow_succ,Nat.mul_comm _ 2,← Nat.mul_assoc,show k / 2 * 2 = k by omega]; exact hk
   have hk20 : 2 ≤ k := by omega
   have HK := Lib.hid hk2
   clear hk hkM hk2 hp hM0
   go_wp2
   go_round
   case rel => exact ⟨c + 1,k / 2,HK.out,by omega,by omega,by go_num,by go_num⟩
   case measure => simp [intOf]; omega
  ·have H := and_1u k (by omega)
   rw [show k % 2 = 1 by omega] at H
   have HK := Lib.hid hk
   have HP := Lib.hid (show k % 2 = 1 by omega)
   clear hk hkM hp hM0
   go_wp2_with (go_at_call 184; refine (HR.out k c HK.out HP.out _).mono ?_; rintro e w' ⟨rfl,rfl⟩)
   go_ret
   exact ⟨⟨k,c,HK.out,HP.out,rfl⟩,rfl⟩
theorem fin_one : fin 4607182418800017408 := by unfold fin; omega
theorem low_exact (x : Nat) (hx : fin x) (h0 : fval x ≠ 0) :
  ∃ r,(∀ w,Calls Tryz.prog 194 #[.float .f64 x] w fun e w' => e = .returned (.float .f64 r) ∧ w = w') ∧ fin r ∧ LowOf (fval x) (fval r) := by
 have hx1 := hx.1
 have hu := unitE_eq
 have ht0 := top_eq
 have hpos : 0 < fval (x % 2 ^ 63) := by rw [fval_abs]; omega
 obtain ⟨f,M,t,hc,hf,hfv,hM1,hM2,hval,ht⟩ := Frexp_exact (x % 2 ^ 63) (fin_abs hx) hpos
 obtain ⟨g,hc2,hg,hgv⟩ := Ldexp_exact f hf 53 ((M : Int) * 2 ^ unitE) 0 53 (by
  rw [hfv,Int.mul_assoc,← Int.pow_add,show e1021 + 53 = unitE from rfl,Int.pow_zero,Int.mul_one]) (by omega) (by omega) (by omega) (by
  rw [Int.natAbs_mul,natAbs_two_pow,Int.natAbs_natCast]
  refine Nat.lt_of_lt_of_le (Nat.mul_lt_mul_of_pos_right hM2 (two_pow_pos _)) ?_
  rw [← Nat.pow_add]
  exact Nat.pow_le_pow_right (by omega) (by omega))
 have hconv : ∀ w,(convert 66 171 (.float .f64 g)).run Tryz.prog w = .ok (.int .u64 (M : Int)) w := fun w =>
  run_convert_float_int w 66 171 .f64 .u64 g M (by rw [Tryz.underlying66]; rfl) Tryz.underlying171 (to_u64 hg hgv (by omega))
 rw [fval_abs] at hval
 have cast : ∀ (a b : Nat),((a * 2 ^ b : Nat) : Int) = (a : Int) * 2 ^ b := fun a b => by simp
 have hval' : (fval x).natAbs * 2 ^ 52 = M * 2 ^ t := by
  have := hval; rw [← cast,← cast] at this; exact Int.ofNat.inj this
 have key : ∀ n c : Nat,M = n * 2 ^ c → n % 2 = 1 → 52 ≤ c + t ∧ (fval x).natAbs = n * 2 ^ (c + t - 52) := by
  intro n c h1 h2
  rw [h1,Nat.mul_assoc,← Nat.pow_add] at hval'
  by_cases h52 : 52 ≤ c + t
  ·refine ⟨h52,?_⟩
   apply Nat.eq_of_mul_eq_mul_right (two_pow_pos 52)
   rw [hval', Nat.mul_assoc,← Nat.pow_add,show c + t - 52 + 52 = c + t by omega]
  ·exfalso
   have e1 : (fval x).natAbs * 2 ^ (52 - (c + t)) = n := by
    apply Nat.eq_of_mul_eq_mul_right (two_pow_pos (c + t))
    rw [Nat.mul_assoc,← Nat.pow_add,show 52 - (c + t) + (c + t) = 52 by omega]; exact hval'
   rw [show 52 - (c + t) = (52 - (c + t) - 1) + 1 by omega,Nat.pow_succ,← Nat.mul_assoc] at e1
   omega
 have uniq : ∀ n c n' c' : Nat,M = n * 2 ^ c → n % 2 = 1 → M = n' * 2 ^ c' → n' % 2 = 1 → c = c' := by
  intro n c n' c' h1 h2 h3 h4
  have gen : ∀ a b p q : Nat,p * 2 ^ a = q * 2 ^ b → p % 2 = 1 → b ≤ a := by
   intro a b p q h hp
   apply Classical.byContradiction
   intro hab
   have : p = q * 2 ^ (b - a) := by
    apply Nat.eq_of_mul_eq_mul_right (two_pow_pos a)
    rw [h,Nat.mul_assoc,← Nat.pow_add,show b - a + a = b by omega]
   rw [show b - a = (b - a - 1) + 1 by omega,Nat.pow_succ,← Nat.mul_assoc] at this
   omega
  have a1 := gen c c' n n' (by rw [← h1,← h3]) h2
  have a2 := gen c' c n' n (by rw [← h1,← h3]) h4
  omega
 have hr : ∀ c : Nat,∃ r,(∀ n,M = n * 2 ^ c → n % 2 = 1 → (∀ w,Calls Tryz.prog 184 #[.float .f64 4607182418800017408,.int .i64 ((t : Int) - 1126 + c)] w fun e w' => e = .returned (.float .f64 r) ∧ w = w') ∧ fin r ∧ fval r = 2 ^ (c + t - 52)) := by
  intro c
  by_cases h : ∃ n,M = n * 2 ^ c ∧ n % 2 = 1
  ·obtain ⟨n,h1,h2⟩ := h
   obtain ⟨k1,k2⟩ := key n c h1 h2
   have hc53 : c ≤ 53 := by
    apply Classical.byContradiction; intro hcc
    have h3 : 2 ^ 54 ≤ 2 ^ c := Nat.pow_le_pow_right (by omega) (by omega)
    have h4 : 2 ^ c ≤ M := by rw [h1]; exact Nat.le_mul_of_pos_left _ (by omega)
    omega
   obtain ⟨r,r1,r2,r3⟩ := Ldexp_exact 4607182418800017408 fin_one ((t : Int) - 1126 + c) (2 ^ (c + t - 52)) unitE (c + t - 52) (by rw [fval_one,Int.mul_comm]) (by omega) (by omega) (by omega) (by
    rw [natAbs_two_pow]
    refine Nat.lt_of_le_of_lt ?_ (fval_lt_top hx)
    rw [k2]; exact Nat.le_mul_of_pos_left _ (by omega))
   exact ⟨r,fun _ _ _ => ⟨r1,r2,r3⟩⟩
  ·exact ⟨0,fun n h1 h2 => absurd ⟨n,h1,h2⟩ h⟩
 obtain ⟨R,hR⟩ := Classical.axiomOfChoice hr
 have hw := low_walk x hx.1 f g M t R hc hc2 hconv (by omega) hM2 ht (fun n c h1 h2 => (hR c n h1 h2).1)
 have hex : ∃ n c : Nat,M = n * 2 ^ c ∧ n % 2 = 1 := by
  have gen : ∀ k m : Nat,0 < m → m < 2 ^ k → ∃ n c : Nat,m = n * 2 ^ c ∧ n % 2 = 1 := by
   intro k
   induction k with
   | zero => intro m h1 h2; omega
   | succ k ih =>
    intro m h1 h2
    by_cases hm : m % 2 = 1
    ·exact ⟨m,0,by simp,hm⟩
    ·rw [Nat.pow_succ] at h2
     obtain ⟨n,c,h3,h4⟩ := ih (m / 2) (by omega) (by omega)
     refine ⟨n,c + 1,?_,h4⟩
     rw [Nat.pow_succ,← Nat.mul_assoc,← h3]; omega
  exact gen 53 M (by omega) hM2
 obtain ⟨n,c,h1,h2⟩ := hex
 refine ⟨R c,fun w => (hw w).mono ?_,(hR c n h1 h2).2.1,?_⟩
 ·rintro e w' ⟨⟨n', c', h3,h4,he⟩,hww⟩
  rw [uniq n c n' c' h1 h2 h3 h4]
  exact ⟨he,hww⟩
 ·obtain ⟨k1,k2⟩ := key n c h1 h2
  rw [(hR c n h1 h2).2.2]
  by_cases hs : 0 ≤ fval x
  ·exact ⟨_,n,rfl,by rw [← cast,← k2]; omega,by omega⟩
  ·exact ⟨_,-(n : Int),rfl,by rw [Int.neg_mul,← cast,← k2]; omega,by omega⟩
def FSl (w : World) (v : Value) (l : List Nat) : Prop :=
 l.length ≤ 4294967296 ∧ (∀ x,x ∈ l → x < 2 ^ 64) ∧
 ((v = .slice none 0 0 ∧ l = []) ∨
   ∃ b off cap : Nat,v = .slice (some ⟨b,off,none⟩) l.length cap ∧ b < w.heap.size ∧ ∀ i,i < l.length → w.cell? ⟨b,off + i,none⟩ = some (.float .f64 (l.getD i 0)))
theorem FSl.below {w w' : World} {v : Value} {l : List Nat} (h : FSl w v l) (hb : Below w.heap.size w w') : FSl w' v l := by
 obtain ⟨h1,h2,h3⟩ := h
 refine ⟨h1,h2,?_⟩
 rcases h3 with h3 | ⟨b,off,cap,e,hlt,hc⟩
 ·exact Or.inl h3
 ·exact Or.inr ⟨b,off,cap,e,Nat.lt_of_lt_of_le hlt hb.size,fun i hi => by rw [hb.cell (p := ⟨b,off + i,none⟩) hlt]; exact hc i hi⟩
theorem getD_mem {l : List Nat} {k : Nat} (h : k < l.length) : l.getD k 0 ∈ l := by
 rw [List.getD_eq_getElem?_getD,List.getElem?_eq_getElem h]; exact List.getElem_mem h
def withinB (x a b : Nat) : Bool := fge (x % 2 ^ 63) a && fle (x % 2 ^ 63) b
theorem within_any (x a b : Nat) (h64 : x < 2 ^ 64) (w : World) :
  Calls Tryz.prog 154 #[.float .f64 x,.float .f64 a,.float .f64 b] w fun e w' => e = .returned (.bool (withinB x a b)) ∧ w = w' := by
 unfold withinB
 cases h1 : fge (x % 2 ^ 63) a
 all_goals
  go_enter Tryz.func154,Tryz.ntmps154
  go_wp2_with (go_at_call 130; refine (abs_any _ h64 _).mono ?_; rintro e w' ⟨rfl,rfl⟩)
  go_ret
  exact ⟨rfl,rfl⟩
theorem FSl.form {w : World} {v : Value} {l : List Nat} (h : FSl w v l) : ∃ ad cap,v = .slice ad l.length cap ∧
  (0 < l.length → ∃ b off : Nat,ad = some ⟨b,off,none⟩ ∧ b < w.heap.size ∧ ∀ i,i < l.length → w.cell? ⟨b,off + i,none⟩ = some (.float .f64 (l.getD i 0))) := by
 obtain ⟨_,_,⟨h1,h2⟩ | ⟨b,off,cap,e,hb,hc⟩⟩ := h
 ·subst h2; exact ⟨none,0,h1,fun h => by simp at h⟩
 ·exact ⟨_,cap,e,fun _ => ⟨b,off,rfl,hb,hc⟩⟩
open Classical in
noncomputable def lowF (x : Nat) : Nat := if h : fin x ∧ fval x ≠ 0 then Classical.choose (low_exact x h.1 h.2) else 0
theorem lowF_spec {x : Nat} (hx : fin x) (h0 : fval x ≠ 0) : (∀ w,Calls Tryz.prog 194 #[.float .f64 x] w fun e w' => e = .returned (.float .f64 (lowF x)) ∧ w = w') ∧ fin (lowF x) ∧ LowOf (fval x) (fval (lowF x)) := by
 unfold lowF
 rw [dif_pos ⟨hx,h0⟩]
 exact Classical.choose_spec (low_exact x hx h0)
noncomputable def goodAt (l : List Nat) (a b j : Nat) : Bool := withinB (l.getD j 0) a b && (decide (j = 0) || !fge (l.getD (j - 1) 0 % 2 ^ 63) (lowF (l.getD j 0)))
noncomputable def allB (l : List Nat) (a b : Nat) : Bool := decide (l.length ≤ 64) && (List.range l.length).all (goodAt l a b)
theorem all_false {l : List Nat} {a b j : Nat} (hj : j < l.length) (h : goodAt l a b j = false) : allB l a b = false := by
 unfold allB
 rw [Bool.and_eq_false_iff]
 right
 rw [List.all_eq_false]
 exact ⟨j,by simpa using hj,by simp [h]⟩
theorem all_true {l : List Nat} {a b : Nat} (hl : l.length ≤ 64) (h : ∀ j,j < l.length → goodAt l a b j = true) : allB l a b = true := by
 unfold allB
 rw [Bool.and_eq_true]
 refine ⟨by simpa using hl,?_⟩
 rw [List.all_eq_true]
 intro j hj
 exact h j (by simpa using hj)
theorem nz_of_within {x a b : Nat} (hx : fin x) (ha : fin a) (ha0 : 0 < fval a) (h : withinB x a b = true) : fval x ≠ 0 := by
 unfold withinB at h
 rw [Bool.and_eq_true] at h
 have h1 := h.1
 rw [fge_val (fin_abs hx) ha,fval_abs] at h1
 have := of_decide_eq_true h1
 omega
theorem all_walk (l : List Nat) (v : Value) (a b : Nat) (ha : fin a) (ha0 : 0 < fval a) (hl : ∀ x,x ∈ l → fin x) (w : World) (hv : FSl w v l) :
  Calls Tryz.prog 155 #[v,.float .f64 a,.float .f64 b] w fun e w' => e = .returned (.bool (allB l a b)) ∧ w = w' := by
 have hv1 := hv.1
 obtain ⟨ad,cap,rfl,hcell⟩ := hv.form
 clear hv
 by_cases h64 : l.length ≤ 64
 ·have HG : Hid (∀ j,j < l.length → goodAt l a b j = false → allB l a b = false) := fun j h1 h2 => all_false h1 h2
  have HT : Hid ((∀ j,j < l.length → goodAt l a b j = true) → allB l a b = true) := fun h => all_true h64 h
  have HC := Lib.hid hcell
  have HL := Lib.hid hl
  have HA := Lib.hid ha
  have HA0 := Lib.hid ha0
  clear hcell hl ha ha0
  go_enter Tryz.func155,Tryz.ntmps155
  go_wp2
  go_loop [14] (fun i => ∃ k : Nat,k ≤ l.length ∧ i = .int .i64 k ∧ Hid (∀ j,j < k → goodAt l a b j = true)) (fun i => l.length - (intOf i).toNat)
  case atStart => exact ⟨0,by omega,rfl,fun j hj => by omega⟩
  case round =>
   obtain ⟨k,hk,rfl,HK⟩ := hrel
   by_cases hlt : k < l.length
   ·obtain ⟨bb,off,rfl,hbb,hc⟩ := HC.out (by omega)
    have hck := hc k hlt
    have hx := HL.out (l.getD k 0) (getD_mem hlt)
    have hckp : 0 < k → w.cell? ⟨bb,off + (k - 1),none⟩ = some (.float .f64 (l.getD (k - 1) 0)) := fun _ => hc (k - 1) (by omega)
    have hxp : 0 < k → fin (l.getD (k - 1) 0) := fun _ => HL.out _ (getD_mem (by omega))
    clear hc
    have hx1 := Lib.hid hx.1
    have hgd : goodAt l a b k = (withinB (l.getD k 0) a b && (decide (k = 0) || !fge (l.getD (k - 1) 0 % 2 ^ 63) (lowF (l.getD k 0)))) := rfl
    have HX := Lib.hid hx
    clear hx
    generalize l.getD k 0 = x at *
    cases hw1 : withinB x a b
    ·
     have HF := Lib.hid (HG.out k hlt (by rw [hgd,hw1]; rfl))
     clear hgd hckp hxp
     go_wp2_with (go_at_call 154; refine (within_any _ _ _ hx1.out _).mono ?_; rintro e w' ⟨rfl,rfl⟩)
     go_ret
     exact ⟨by rw [HF.out]; rfl,rfl⟩
    ·by_cases hk0 : k = 0
     ·subst hk0
      rw [Nat.add_zero] at hck
      have HF := Lib.hid (show ∀ j,j < 0 + 1 → goodAt l a b j = true from fun j hj => by
       have : j = 0 := by omega
       subst this; rw [hgd,hw1]; rfl)
      clear hgd hckp hxp
      go_wp2_with (go_at_call 154; refine (within_any _ _ _ hx1.out _).mono ?_; rintro e w' ⟨rfl,rfl⟩)
      go_round
      case rel => exact ⟨0 + 1,by omega,by go_num,HF⟩
      case measure => simp [intOf]; omega
     ·have hcp := hckp (by omega)
      have hxp := hxp (by omega)
      have hxp1 := Lib.hid hxp.1
      have hlow := (lowF_spec HX.out (nz_of_within HX.out HA.out HA0.out hw1)).1
      have HLO := Lib.hid hlow
      clear hckp hlow hxp
      generalize l.getD (k - 1) 0 = y at *
      have hkd : decide (k = 0) = false := by simpa using hk0
      rw [hw1,hkd] at hgd
      have hi1 : ((k : Int) - 1).toNat = k - 1 := by omega
      cases hw2 : fge (y % 2 ^ 63) (lowF x)
      ·have HF := Lib.hid (show ∀ j,j < k + 1 → goodAt l a b j = true from fun j hj => by
        by_cases hjk : j = k
        ·subst hjk; rw [hgd,hw2]; rfl
        ·exact HK.out j (by omega))
       clear hgd hkd
       go_wp2_with (first | (go_at_call 154; refine (within_any _ _ _ hx1.out _).mono ?_; rintro e w' ⟨rfl,rfl⟩) | (go_at_call 130; refine (abs_any _ hxp1.out _).mono ?_; rintro e w' ⟨rfl,rfl⟩) | (go_at_call 194; refine (HLO.out _).mono ?_; rintro e w' ⟨rfl,rfl⟩))
       go_round
       case rel => exact ⟨k + 1,by omega,by go_num,HF⟩
       case measure => simp [intOf]; omega
      ·have HF := Lib.hid (HG.out k hlt (by rw [hgd,hw2]; rfl))
       clear hgd hkd
       go_wp2_with (first | (go_at_call 154; refine (within_any _ _ _ hx1.out _).mono ?_; rintro e w' ⟨rfl,rfl⟩) | (go_at_call 130; refine (abs_any _ hxp1.out _).mono ?_; rintro e w' ⟨rfl,rfl⟩) | (go_at_call 194; refine (HLO.out _).mono ?_; rintro e w' ⟨rfl,rfl⟩))
       go_ret
       exact ⟨by rw [HF.out]; rfl,rfl⟩
   ·have HF := Lib.hid (HT.out (fun j hj => HK.out j (by omega)))
    go_wp2
    go_ret
    exact ⟨by rw [HF.out]; rfl,rfl⟩
 ·have HF : Hid (allB l a b = false) := by unfold Hid allB; rw [show decide (l.length ≤ 64) = false by simpa using h64]; rfl
  have h65 : 64 < l.length := by omega
  clear hcell hl ha ha0 h64
  go_enter Tryz.func155,Tryz.ntmps155
  go_wp2
  go_ret
  exact ⟨by rw [HF.out]; rfl,rfl⟩
end Go.Proofs.YtbagikgpgdlkcaaGreatDoor
namespace Go.Proofs.YtbagikgpgdlkcaaGreatDoor
open Go.RowKit Tvf
theorem rn_le_pow {z : Int} {k : Nat} (h : z.natAbs ≤ 2 ^ k) : (rn z).natAbs ≤ 2 ^ k := by
 have hr : rep ((2 : Int) ^ k) := by
  have := rep_of (m := 1) k (by decide); rw [Int.one_mul] at this; exact this
 have cast : ((2 ^ k : Nat) : Int) = (2 : Int) ^ k := by simp
 have m1 := rn_mono (a := z) (b := 2 ^ k) (by rw [← cast]; omega)
 have m2 := rn_mono (a := -(2 ^ k)) (b := z) (by rw [← cast]; omega)
 rw [rn_rep (rep_neg hr)] at m2
 rw [rn_rep hr] at m1
 rw [← cast] at m1 m2
 omega
def sumHi (a b : Nat) : Nat := fadd a b
def sumLo (a b : Nat) : Nat := fadd (fsub a (fsub (fadd a b) (fsub (fadd a b) a))) (fsub b (fsub (fadd a b) a))
def tame (x : Nat) : Prop := fin x ∧ (fval x).natAbs ≤ 2 ^ (unitE + 1000)
theorem nsub_pow {x y : Int} {i j k : Nat} (hx : x.natAbs ≤ 2 ^ i) (hy : y.natAbs ≤ 2 ^ j) (hi : i < k) (hj : j < k) : (x - y).natAbs ≤ 2 ^ k := by
 have e : 2 ^ k = 2 * 2 ^ (k - 1) := by rw [show k = k - 1 + 1 by omega,Nat.pow_succ]; simp; omega
 have h1 : 2 ^ i ≤ 2 ^ (k - 1) := Nat.pow_le_pow_right (by omega) (by omega)
 have h2 : 2 ^ j ≤ 2 ^ (k - 1) := Nat.pow_le_pow_right (by omega) (by omega)
 omega
theorem nadd_pow {x y : Int} {i j k : Nat} (hx : x.natAbs ≤ 2 ^ i) (hy : y.natAbs ≤ 2 ^ j) (hi : i < k) (hj : j < k) : (x + y).natAbs ≤ 2 ^ k := by
 have := nsub_pow (y := -y) hx (by rw [Int.natAbs_neg]; exact hy) hi hj
 rwa [show x - -y = x + y by omega] at this
theorem sub_step {x y i j k : Nat} (hx : fin x) (hy : fin y) (bx : (fval x).natAbs ≤ 2 ^ i) (bY : (fval y).natAbs ≤ 2 ^ j) (hi : i < k) (hj : j < k) (hk : k < top) :
  fin (fsub x y) ∧ fval (fsub x y) = rn (fval x - fval y) ∧ (fval (fsub x y)).natAbs ≤ 2 ^ k := by
 have b := nsub_pow bx bY hi hj
 obtain ⟨c1,c2⟩ := fsub_val hx hy (inReach_le b hk)
 exact ⟨c1,c2,by rw [c2]; exact rn_le_pow b⟩
theorem add_step {x y i j k : Nat} (hx : fin x) (hy : fin y) (bx : (fval x).natAbs ≤ 2 ^ i) (bY : (fval y).natAbs ≤ 2 ^ j) (hi : i < k) (hj : j < k) (hk : k < top) :
  fin (fadd x y) ∧ fval (fadd x y) = rn (fval x + fval y) ∧ (fval (fadd x y)).natAbs ≤ 2 ^ k := by
 have b := nadd_pow bx bY hi hj
 obtain ⟨c1,c2⟩ := fadd_val hx hy (inReach_le b hk)
 exact ⟨c1,c2,by rw [c2]; exact rn_le_pow b⟩
theorem sum_fin {a b : Nat} (ha : tame a) (hb : tame b) :
  fin (fadd a b) ∧ fin (fsub (fadd a b) a) ∧ fin (fsub (fadd a b) (fsub (fadd a b) a)) ∧ fin (fsub a (fsub (fadd a b) (fsub (fadd a b) a))) ∧ fin (fsub b (fsub (fadd a b) a)) ∧ fin (sumLo a b) ∧
   fval (sumHi a b) = rn (fval a + fval b) ∧ fval (sumLo a b) = fval a + fval b - rn (fval a + fval b) := by
 obtain ⟨ha,ha1⟩ := ha
 obtain ⟨hb,hb1⟩ := hb
 have two := two_sum (rep_fval a) (rep_fval b)
 have hK5 : unitE + 1000 + 5 < top := by decide
 unfold sumHi sumLo
 generalize unitE + 1000 = K at *
 obtain ⟨s1,s2,s3⟩ := add_step (k := K + 1) ha hb ha1 hb1 (by simp) (by simp) (Nat.lt_trans (by simp) hK5)
 obtain ⟨c1,c2,c3⟩ := sub_step (k := K + 2) s1 ha s3 ha1 (by simp) (by simp) (Nat.lt_trans (by simp) hK5)
 obtain ⟨d1,d2,d3⟩ := sub_step (k := K + 3) s1 c1 s3 c3 (by simp) (by simp) (Nat.lt_trans (by simp) hK5)
 obtain ⟨e1,e2,e3⟩ := sub_step (k := K + 4) ha d1 ha1 d3 (by simp) (by simp) (Nat.lt_trans (by simp) hK5)
 obtain ⟨f1,f2,f3⟩ := sub_step (k := K + 4) hb c1 hb1 c3 (by simp) (by simp) (Nat.lt_trans (by simp) hK5)
 obtain ⟨g1,g2,g3⟩ := add_step (k := K + 5) e1 f1 e3 f3 (by simp) (by simp) hK5
 refine ⟨s1,c1,d1,e1,f1,g1,s2,?_⟩
 rw [g2,e2,f2,d2,c2,s2]
 exact two
theorem fin_c1000 : fin 9110782046170513408 := by unfold fin; omega
theorem fval_c1000 : fval 9110782046170513408 = 2 ^ (unitE + 1000) :=
 fval_pow (F := 2023) (by unfold fin; omega) (by omega) (by omega) (by omega) (by omega) rfl
theorem tame_le {x : Nat} (h : tame x) : fle (x % 2 ^ 63) 9110782046170513408 = true := by
 rw [fle_val (fin_abs h.1) fin_c1000,fval_abs,fval_c1000]
 have := h.2
 have cast : ((2 ^ (unitE + 1000) : Nat) : Int) = (2 : Int) ^ (unitE + 1000) := by simp
 rw [← cast]
 simp; omega
theorem tame_walk (x : Nat) (h64 : x < 2 ^ 64) (w : World) :
  Calls Tryz.prog 219 #[.float .f64 x] w fun e w' => e = .returned (.bool (fle (x % 2 ^ 63) 9110782046170513408)) ∧ w = w' := by
 go_enter Tryz.func219,Tryz.ntmps219
 go_wp2_with (go_at_call 130; refine (abs_any _ h64 _).mono ?_; rintro e w' ⟨rfl,rfl⟩)
 go_ret
 exact ⟨rfl,rfl⟩
theorem sum_walk (a b : Nat) (ha : tame a) (hb : tame b) (w : World) :
  Calls Tryz.prog 185 #[.float .f64 a,.float .f64 b] w fun e w' => e = .returned (.tuple #[.float .f64 (sumHi a b),.float .f64 (sumLo a b)]) ∧ Below w.heap.size w w' := by
 obtain ⟨s1,s2,s3,s4,s5,s6,_,_⟩ := sum_fin ha hb
 have ta := tame_le ha
 have tb := tame_le hb
 have ha1 := ha.1
 have hb1 := hb.1
 have ha2 := Lib.hid ha1.1
 have hb2 := Lib.hid hb1.1
 clear ha hb
 go_enter Tryz.func185,Tryz.ntmps185
 go_wp2_with (first | (go_at_call 219; (first | (with_reducible refine (tame_walk a ha2.out _).mono ?_) | (with_reducible refine (tame_walk b hb2.out _).mono ?_)); rintro e w' ⟨rfl,rfl⟩) | go_in)
 go_ret2
 exact ⟨rfl,(Below.refl _ _).alloc (Nat.le_refl _) _⟩
theorem tame_opp {x : Nat} (h : tame x) : tame (fopp x) := ⟨fopp_fin h.1,by rw [fopp_val h.1.1,Int.natAbs_neg]; exact h.2⟩
theorem diff_walk (a b : Nat) (ha : tame a) (hb : tame b) (w : World) :
  Calls Tryz.prog 134 #[.float .f64 a,.float .f64 b] w fun e w' => e = .returned (.tuple #[.float .f64 (sumHi a (fopp b)),.float .f64 (sumLo a (fopp b))]) ∧ Below w.heap.size w w' := by
 have HS := Lib.hid (sum_walk a (fopp b) ha (tame_opp hb))
 clear ha hb
 go_enter Tryz.func134,Tryz.ntmps134
 go_wp2_with (go_at_call 185; refine (HS.out _).mono ?_; rintro e w' ⟨rfl,hb⟩)
 go_ret2
 exact ⟨rfl,hb⟩
theorem diff_val {a b : Nat} (ha : tame a) (hb : tame b) : fin (sumHi a (fopp b)) ∧ fin (sumLo a (fopp b)) ∧ fval (sumHi a (fopp b)) = rn (fval a - fval b) ∧ fval (sumLo a (fopp b)) = fval a - fval b - rn (fval a - fval b) := by
 obtain ⟨s1,_,_,_,_,s6,s7,s8⟩ := sum_fin ha (tame_opp hb)
 rw [fopp_val hb.1.1] at s7 s8
 exact ⟨s1,s6,by rw [s7]; rfl,by rw [s8]; rfl⟩
def safeB (x : Nat) : Bool := feq (x % 2 ^ 63) 0 || (fge (x % 2 ^ 63) 2580562586483294208 && fle (x % 2 ^ 63) 6633802251116740608)
theorem safe_walk (x : Nat) (h64 : x < 2 ^ 64) (w : World) :
  Calls Tryz.prog 230 #[.float .f64 x] w fun e w' => e = .returned (.bool (safeB x)) ∧ w = w' := by
 unfold safeB
 cases h1 : feq (x % 2 ^ 63) 0 <;> cases h2 : fge (x % 2 ^ 63) 2580562586483294208
 all_goals
  go_enter Tryz.func230,Tryz.ntmps230
  go_wp2_with (go_at_call 130; refine (abs_any _ h64 _).mono ?_; rintro e w' ⟨rfl,rfl⟩)
  go_ret
  exact ⟨rfl,rfl⟩
def safe (x : Nat) : Prop := fin x ∧ 2 ^ (unitE - 450) ≤ (fval x).natAbs ∧ (fval x).natAbs ≤ 2 ^ (unitE + 450)
theorem fval_m450 : fval 2580562586483294208 = 2 ^ (unitE - 450) :=
 fval_pow (F := 573) (by unfold fin; omega) (by omega) (by omega) (by omega) (by omega) rfl
theorem fval_p450 : fval 6633802251116740608 = 2 ^ (unitE + 450) :=
 fval_pow (F := 1473) (by unfold fin; omega) (by omega) (by omega) (by omega) (by omega) rfl
theorem safe_true {x : Nat} (h : safe x) : safeB x = true := by
 unfold safeB
 rw [fge_val (fin_abs h.1) (by unfold fin; omega),fle_val (fin_abs h.1) (by unfold fin; omega),fval_abs,fval_m450,fval_p450]
 have h1 := h.2.1
 have h2 := h.2.2
 obtain ⟨p,hp⟩ : ∃ p : Nat,p = 2 ^ (unitE - 450) := ⟨_,rfl⟩
 obtain ⟨q,hq⟩ : ∃ q : Nat,q = 2 ^ (unitE + 450) := ⟨_,rfl⟩
 have c1 : (p : Int) = (2 : Int) ^ (unitE - 450) := by rw [hp]; simp
 have c2 : (q : Int) = (2 : Int) ^ (unitE + 450) := by rw [hq]; simp
 rw [← c1,← c2]
 rw [← hp] at h1
 rw [← hq] at h2
 have d1 : decide ((p : Int) ≤ ((fval x).natAbs : Int)) = true := by simp; omega
 have d2 : decide (((fval x).natAbs : Int) ≤ (q : Int)) = true := by simp; omega
 rw [d1,d2]; simp
def splitC (a : Nat) : Nat := fmul 4728779608772575232 a
def splitHi (a : Nat) : Nat := fsub (splitC a) (fsub (splitC a) a)
def splitLo (a : Nat) : Nat := fsub a (splitHi a)
theorem split_walk (a : Nat) (h64 : a < 2 ^ 64) (hs : safeB a = true) (h0 : fin 4728779608772575232) (h1 : fin a) (h2 : fin (fmul 4728779608772575232 a)) (h3 : fin (fsub (fmul 4728779608772575232 a) a)) (h4 : fin (fsub (fmul 4728779608772575232 a) (fsub (fmul 4728779608772575232 a) a))) (w : World) :
  Calls Tryz.prog 231 #[.float .f64 a] w fun e w' => e = .returned (.tuple #[.float .f64 (splitHi a),.float .f64 (splitLo a)]) ∧ w = w' := by
 go_enter Tryz.func231,Tryz.ntmps231
 go_wp2_with (go_at_call 230; refine (safe_walk _ h64 _).mono ?_; rw [hs]; rintro e w' ⟨rfl,rfl⟩)
 go_ret2
 exact ⟨rfl,rfl⟩
theorem mul_unit {x y : Nat} (hx : fin x) (hy : fin y) {P Q : Int} {i j u n : Nat} (ex : fval x = P * 2 ^ i) (ey : fval y = Q * 2 ^ j) (hij : i + j = unitE + u) (hb : (P * Q).natAbs ≤ 2 ^ n) (hn : n + u < top) :
  fin (fmul x y) ∧ fval (fmul x y) = rn (P * Q) * 2 ^ u := by
 have hz : fval x * fval y = (P * Q * 2 ^ u) * 2 ^ unitE := by
  rw [ex,ey,Int.mul_assoc (P * Q),← Int.pow_add,Nat.add_comm u,← hij,Int.pow_add]; grind
 have hr : inReach (P * Q * 2 ^ u) := by
  refine inReach_le (k := n + u) ?_ hn
  rw [Int.natAbs_mul,natAbs_two_pow,Nat.pow_add]
  exact Nat.mul_le_mul_right _ hb
 have := fmul_val hx hy hz hr
 rw [rn_scale] at this
 exact this
theorem sub_unit {x y : Nat} (hx : fin x) (hy : fin y) {P Q : Int} {u n : Nat} (ex : fval x = P * 2 ^ u) (ey : fval y = Q * 2 ^ u) (hb : (P - Q).natAbs ≤ 2 ^ n) (hn : n + u < top) :
  fin (fsub x y) ∧ fval (fsub x y) = rn (P - Q) * 2 ^ u := by
 have hz : fval x - fval y = (P - Q) * 2 ^ u := by rw [ex,ey,Int.sub_mul]
 have hr : inReach (fval x - fval y) := by
  rw [hz]
  refine inReach_le (k := n + u) ?_ hn
  rw [Int.natAbs_mul,natAbs_two_pow,Nat.pow_add]
  exact Nat.mul_le_mul_right _ hb
 have := fsub_val hx hy hr
 rw [hz,rn_scale] at this
 exact this
theorem fin_half : fin 4728779608772575232 := by unfold fin; omega
theorem fval_half : fval 4728779608772575232 = 134217729 * 2 ^ unitE := by
 have hf := fin_half
 have h := fval_norm hf (by omega)
 have e1 : (4728779608772575232 : Nat) / 2 ^ 52 % 2048 = 1050 := by omega
 have e2 : (4728779608772575232 : Nat) % 2 ^ 52 = 2 ^ 25 := by omega
 have e3 : fneg 4728779608772575232 = false := by decide
 rw [e1,e2,e3] at h
 obtain ⟨k,hk⟩ : ∃ k : Nat,k = 1050 - 1 := ⟨_,rfl⟩
 rw [← hk] at h
 rw [h,show (2 ^ 52 + 2 ^ 25 : Nat) = 134217729 * 2 ^ 25 by decide,Nat.mul_assoc,← Nat.pow_add,show 25 + k = unitE by have := unitE_eq; omega]
 show ((134217729 * 2 ^ unitE : Nat) : Int) = _
 simp
theorem split_val {a : Nat} (ha : fin a) {A : Int} {i : Nat} (ea : fval a = A * 2 ^ i) (h1 : 2 ^ 52 ≤ A.natAbs) (h2 : A.natAbs < 2 ^ 53) (hi : i + 90 < top) :
  fin (splitC a) ∧ fin (fsub (splitC a) a) ∧ fin (splitHi a) ∧ fin (splitLo a) ∧ fval (splitHi a) = hiOf A * 2 ^ i ∧ fval (splitLo a) = (A - hiOf A) * 2 ^ i := by
 have hu := unitE_eq
 obtain ⟨H,hH,bH,bL⟩ := split_norm h1 h2
 obtain ⟨c1,c2⟩ := mul_unit fin_half ha (n := 81) fval_half ea rfl (by omega) (by omega)
 have bc : (rn (134217729 * A)).natAbs ≤ 2 ^ 81 := rn_le_pow (by omega)
 obtain ⟨d1,d2⟩ := sub_unit c1 ha (n := 82) c2 ea (by clear hH bH bL; omega) (by omega)
 have bd : (rn (rn (134217729 * A) - A)).natAbs ≤ 2 ^ 82 := rn_le_pow (by clear hH bH bL; omega)
 obtain ⟨e1,e2⟩ := sub_unit c1 d1 (n := 83) c2 d2 (by clear hH bH bL; omega) (by omega)
 have e2' : fval (splitHi a) = hiOf A * 2 ^ i := e2
 obtain ⟨f1,f2⟩ := sub_unit ha e1 (n := 54) ea e2' (by rw [hH]; clear bc bd; omega) (by omega)
 rw [rn_rep (rep_small (z := A - hiOf A) (by rw [hH]; clear bc bd; omega))] at f2
 exact ⟨c1,d1,e1,f1,e2', f2⟩
def prodHi (a b : Nat) : Nat := fmul a b
def prodE1 (a b : Nat) : Nat := fsub (fmul a b) (fmul (splitHi a) (splitHi b))
def prodE2 (a b : Nat) : Nat := fsub (prodE1 a b) (fmul (splitLo a) (splitHi b))
def prodE3 (a b : Nat) : Nat := fsub (prodE2 a b) (fmul (splitHi a) (splitLo b))
def prodLo (a b : Nat) : Nat := fsub (fmul (splitLo a) (splitLo b)) (prodE3 a b)
structure ProdFacts (a b : Nat) : Prop where
 p1 : fin (fmul a b)
 p2 : fin (fmul (splitHi a) (splitHi b))
 p3 : fin (prodE1 a b)
 p4 : fin (fmul (splitLo a) (splitHi b))
 p5 : fin (prodE2 a b)
 p6 : fin (fmul (splitHi a) (splitLo b))
 p7 : fin (prodE3 a b)
 p8 : fin (fmul (splitLo a) (splitLo b))
 p9 : fin (prodLo a b)
 v1 : fval (prodHi a b) * 2 ^ unitE = rn (fval a * fval b)
 v2 : fval (prodLo a b) * 2 ^ unitE = fval a * fval b - rn (fval a * fval b)
theorem prod_facts_at {a b : Nat} (ha : fin a) (hb : fin b) {A B : Int} {i j u : Nat} (ea : fval a = A * 2 ^ i) (eb : fval b = B * 2 ^ j) (hA1 : 2 ^ 52 ≤ A.natAbs) (hA2 : A.natAbs < 2 ^ 53) (hB1 : 2 ^ 52 ≤ B.natAbs) (hB2 : B.natAbs < 2 ^ 53)
  (hi : i + 90 < top) (hj : j + 90 < top) (hij : i + j = unitE + u) (hu : u + 120 < top) : ProdFacts a b := by
 obtain ⟨_,_,sa1,sa2,sa3,sa4⟩ := split_val ha ea hA1 hA2 hi
 obtain ⟨_,_,sb1,sb2,sb3,sb4⟩ := split_val hb eb hB1 hB2 hj
 obtain ⟨H,hH,bH,bL⟩ := split_norm hA1 hA2
 obtain ⟨G,hG,bG,bM⟩ := split_norm hB1 hB2
 rw [← hH] at bL
 rw [← hG] at bM
 have bh : (hiOf A).natAbs ≤ 2 ^ 53 := by rw [hH]; omega
 have bg : (hiOf B).natAbs ≤ 2 ^ 53 := by rw [hG]; omega
 have hun := prodRest_unit hA1 hA2 hB1 hB2
 unfold prodRest at hun
 have m1 : (A * B).natAbs ≤ 2 ^ 106 := by have := mul_natAbs_le (Nat.le_of_lt hA2) (Nat.le_of_lt hB2); rwa [← Nat.pow_add] at this
 have m2 : (hiOf A * hiOf B).natAbs ≤ 2 ^ 106 := by have := mul_natAbs_le bh bg; rwa [← Nat.pow_add] at this
 have m3 : ((A - hiOf A) * hiOf B).natAbs ≤ 2 ^ 79 := by have := mul_natAbs_le bL bg; rwa [← Nat.pow_add] at this
 have m4 : (hiOf A * (B - hiOf B)).natAbs ≤ 2 ^ 79 := by have := mul_natAbs_le bh bM; rwa [← Nat.pow_add] at this
 have m5 : ((A - hiOf A) * (B - hiOf B)).natAbs ≤ 2 ^ 52 := by have := mul_natAbs_le bL bM; rwa [← Nat.pow_add] at this
 have eprod : fval a * fval b = A * B * 2 ^ u * 2 ^ unitE := by
  rw [ea,eb,Int.mul_assoc (A * B),← Int.pow_add,Nat.add_comm u,← hij,Int.pow_add]; grind
 clear bL bM bH bG hH hG bh bg
 obtain ⟨f1,g1⟩ := mul_unit ha hb ea eb hij m1 (by omega)
 obtain ⟨f2,g2⟩ := mul_unit sa1 sb1 sa3 sb3 hij m2 (by omega)
 have n1 := rn_le_pow m1
 have n2 := rn_le_pow m2
 have n3 := rn_le_pow m3
 have n4 := rn_le_pow m4
 have n5 := rn_le_pow m5
 have k1 := nsub_pow (k := 107) n1 n2 (by omega) (by omega)
 obtain ⟨f3,g3⟩ := sub_unit f1 f2 g1 g2 k1 (by omega)
 have k1' := rn_le_pow k1
 obtain ⟨f4,g4⟩ := mul_unit sa2 sb1 sa4 sb3 hij m3 (by omega)
 have k2 := nsub_pow (k := 108) k1' n3 (by omega) (by omega)
 obtain ⟨f5,g5⟩ := sub_unit f3 f4 g3 g4 k2 (by omega)
 have k2' := rn_le_pow k2
 obtain ⟨f6,g6⟩ := mul_unit sa1 sb2 sa3 sb4 hij m4 (by omega)
 have k3 := nsub_pow (k := 109) k2' n4 (by omega) (by omega)
 obtain ⟨f7,g7⟩ := sub_unit f5 f6 g5 g6 k3 (by omega)
 have k3' := rn_le_pow k3
 obtain ⟨f8,g8⟩ := mul_unit sa2 sb2 sa4 sb4 hij m5 (by omega)
 have k4 := nsub_pow (k := 110) n5 k3' (by omega) (by omega)
 obtain ⟨f9,g9⟩ := sub_unit f8 f7 g8 g7 k4 (by omega)
 refine ⟨f1,f2,f3,f4,f5,f6,f7,f8,f9,?_,?_⟩
 ·show fval (fmul a b) * 2 ^ unitE = _
  rw [eprod,rn_scale,rn_scale,g1]
 ·have g9' : fval (prodLo a b) = (A * B - rn (A * B)) * 2 ^ u := by rw [← hun]; exact g9
  rw [g9', eprod,rn_scale,rn_scale,← Int.sub_mul,← Int.sub_mul]
theorem safe_norm {a : Nat} (h : safe a) : ∃ (A : Int) (i : Nat),fval a = A * 2 ^ i ∧ 2 ^ 52 ≤ A.natAbs ∧ A.natAbs < 2 ^ 53 ∧ unitE - 450 ≤ i + 53 ∧ i + 52 ≤ unitE + 450 := by
 have hu := unitE_eq
 obtain ⟨hf,h1,h2⟩ := h
 have h52 : 2 ^ 52 ≤ (fval a).natAbs := Nat.le_trans (Nat.pow_le_pow_right (by omega) (by omega)) h1
 obtain ⟨A,i,e,b1,b2⟩ := rep_norm (rep_fval a) h52
 refine ⟨A,i,e,b1,b2,?_,?_⟩
 ·rw [e,Int.natAbs_mul,natAbs_two_pow] at h1
  have : A.natAbs * 2 ^ i < 2 ^ 53 * 2 ^ i := Nat.mul_lt_mul_of_pos_right b2 (two_pow_pos _)
  rw [← Nat.pow_add] at this
  have := (Nat.pow_lt_pow_iff_right (show 1 < 2 by omega)).1 (Nat.lt_of_le_of_lt h1 this)
  omega
 ·rw [e,Int.natAbs_mul,natAbs_two_pow] at h2
  have : 2 ^ 52 * 2 ^ i ≤ A.natAbs * 2 ^ i := Nat.mul_le_mul_right _ b1
  rw [← Nat.pow_add] at this
  have := (Nat.pow_le_pow_iff_right (show 1 < 2 by omega)).1 (Nat.le_trans this h2)
  omega
theorem prod_facts {a b : Nat} (ha : safe a) (hb : safe b) : ProdFacts a b := by
 have hu := unitE_eq
 have ht := top_eq
 obtain ⟨A,i,ea,a1,a2,a3,a4⟩ := safe_norm ha
 obtain ⟨B,j,eb,b1,b2,b3,b4⟩ := safe_norm hb
 exact prod_facts_at (u := i + j - unitE) ha.1 hb.1 ea eb a1 a2 b1 b2 (by omega) (by omega) (by omega) (by omega)
theorem split_safe {a : Nat} (ha : safe a) (w : World) :
  Calls Tryz.prog 231 #[.float .f64 a] w fun e w' => e = .returned (.tuple #[.float .f64 (splitHi a),.float .f64 (splitLo a)]) ∧ w = w' := by
 have hu := unitE_eq
 have ht := top_eq
 obtain ⟨A,i,ea,a1,a2,a3,a4⟩ := safe_norm ha
 obtain ⟨s1,s2,s3,s4,_,_⟩ := split_val ha.1 ea a1 a2 (by omega)
 exact split_walk a ha.1.1 (safe_true ha) fin_half ha.1 s1 s2 s3 w
theorem split_fins {a : Nat} (ha : safe a) : fin (splitHi a) ∧ fin (splitLo a) := by
 have hu := unitE_eq
 have ht := top_eq
 obtain ⟨A,i,ea,a1,a2,a3,a4⟩ := safe_norm ha
 obtain ⟨s1,s2,s3,s4,_,_⟩ := split_val ha.1 ea a1 a2 (by omega)
 exact ⟨s3,s4⟩
theorem prod_walk (a b : Nat) (ha : safe a) (hb : safe b) (w : World) :
  Calls Tryz.prog 199 #[.float .f64 a,.float .f64 b] w fun e w' => e = .returned (.tuple #[.float .f64 (prodHi a b),.float .f64 (prodLo a b)]) ∧ Below w.heap.size w w' := by
 obtain ⟨p1,p2,p3,p4,p5,p6,p7,p8,p9,_,_⟩ := prod_facts ha hb
 obtain ⟨sa1,sa2⟩ := split_fins ha
 obtain ⟨sb1,sb2⟩ := split_fins hb
 unfold prodE3 prodE2 prodE1 at p7
 unfold prodE2 prodE1 at p5
 unfold prodE1 at p3
 have ta := safe_true ha
 have tb := safe_true hb
 have HSa := Lib.hid (split_safe ha)
 have HSb := Lib.hid (split_safe hb)
 have ha1 := ha.1
 have hb1 := hb.1
 have ha2 := Lib.hid ha1.1
 have hb2 := Lib.hid hb1.1
 clear ha hb
 go_enter Tryz.func199,Tryz.ntmps199
 go_wp2_with (first | (go_at_call 230; (first | (with_reducible refine (safe_walk a ha2.out _).mono ?_) | (with_reducible refine (safe_walk b hb2.out _).mono ?_)); rintro e w' ⟨rfl,rfl⟩) | (go_at_call 231; (first | (with_reducible refine (HSa.out _).mono ?_) | (with_reducible refine (HSb.out _).mono ?_)); rintro e w' ⟨rfl,rfl⟩) | go_in)
 go_ret2
 exact ⟨rfl,(Below.refl _ _).alloc (Nat.le_refl _) _⟩
end Go.Proofs.YtbagikgpgdlkcaaGreatDoor
namespace Tvf
def absSum : List Int → Nat
 | [] => 0
 | x :: r => x.natAbs + absSum r
def isum : List Int → Int
 | [] => 0
 | x :: r => x + isum r
theorem isum_append (a b : List Int) : isum (a ++ b) = isum a + isum b := by
 induction a with
 | nil => simp [isum]
 | cons x r ih => simp only [List.cons_append,isum,ih]; omega
theorem absSum_append (a b : List Int) : absSum (a ++ b) = absSum a + absSum b := by
 induction a with
 | nil => simp [absSum]
 | cons x r ih => simp only [List.cons_append,absSum,ih]; omega
theorem isum_reverse (a : List Int) : isum a.reverse = isum a := by
 induction a with
 | nil => rfl
 | cons x r ih => rw [List.reverse_cons,isum_append,ih]; simp only [isum]; omega
theorem isum_le (a : List Int) : (isum a).natAbs ≤ absSum a := by
 induction a with
 | nil => simp [isum,absSum]
 | cons x r ih => simp only [isum,absSum]; omega
theorem absSum_mem {a : List Int} {x : Int} (h : x ∈ a) : x.natAbs ≤ absSum a := by
 induction a with
 | nil => cases h
 | cons y r ih =>
  simp only [absSum]
  rcases List.mem_cons.1 h with h | h
  ·subst h; omega
  ·have := ih h; omega
theorem rn_unit (z : Int) : ∃ k : Nat,(∃ q : Int,rn z = q * 2 ^ k) ∧ 2 * (rn z - z).natAbs ≤ 2 ^ k ∧
  (rn z ≠ z → 2 ^ (52 + k) ≤ z.natAbs ∧ 1 ≤ k) ∧ (2 * (rn z - z).natAbs = 2 ^ k → ∃ q : Int,rn z = q * 2 ^ (k + 1)) := by
 have key : ∀ n : Nat,∃ k : Nat,(∃ q : Nat,rnN n = q * 2 ^ k) ∧ (2 * rnN n ≤ 2 * n + 2 ^ k ∧ 2 * n ≤ 2 * rnN n + 2 ^ k) ∧
   (rnN n ≠ n → 2 ^ (52 + k) ≤ n ∧ 1 ≤ k) ∧ (2 * rnN n = 2 * n + 2 ^ k ∨ 2 * n = 2 * rnN n + 2 ^ k → ∃ q : Nat,rnN n = q * 2 ^ (k + 1)) := by
  intro n
  refine ⟨ulpE n,⟨_,rfl⟩,cutE_err n (ulpE n),?_,?_⟩
  ·intro h
   have h1 : 1 ≤ ulpE n := by
    apply Classical.byContradiction
    intro hc
    exact h (rnN_small n (ulpE_zero n (by omega)))
   exact ⟨(ulpE_lo n _ rfl h1).1,h1⟩
  ·intro h
   have hp := two_pow_pos (ulpE n)
   have hd := Nat.div_add_mod n (2 ^ ulpE n)
   have hm := Nat.mod_lt n hp
   unfold rnN at h ⊢
   have hev : cutE n (ulpE n) % 2 = 0 := by
    unfold cutE at h ⊢
    rw [Nat.mul_comm] at hd
    generalize 2 ^ ulpE n = p at *
    generalize n % p = r at *
    generalize n / p = l at *
    split
    ·rename_i hc
     rw [if_pos hc,Nat.add_mul] at h
     rcases hc with hc | hc
     ·omega
     ·omega
    ·rename_i hc
     rw [if_neg hc,Nat.add_zero] at h
     have h2 : p = 2 * r := by omega
     have : ¬ l % 2 = 1 := fun h3 => hc (Or.inr ⟨h2,h3⟩)
     omega
   refine ⟨cutE n (ulpE n) / 2,?_⟩
   rw [Nat.pow_succ,Nat.mul_comm (2 ^ ulpE n),← Nat.mul_assoc,show cutE n (ulpE n) / 2 * 2 = cutE n (ulpE n) by omega]
 obtain ⟨k,⟨q,hq⟩,h1,h2,h3⟩ := key z.natAbs
 have cast : ∀ (a b : Nat),((a * 2 ^ b : Nat) : Int) = (a : Int) * 2 ^ b := fun a b => by simp
 refine ⟨k,?_,?_,?_,?_⟩
 ·unfold rn; rw [hq,cast]
  split
  ·exact ⟨-q,by rw [Int.neg_mul]⟩
  ·exact ⟨q,rfl⟩
 ·clear h3 h2 hq; unfold rn; split <;> omega
 ·intro h
  refine h2 ?_
  clear h3 h2 hq
  intro e; apply h; unfold rn; rw [e]; split <;> omega
 ·intro h
  have hp : 2 * rnN z.natAbs = 2 * z.natAbs + 2 ^ k ∨ 2 * z.natAbs = 2 * rnN z.natAbs + 2 ^ k := by
   clear h3 h2 hq
   unfold rn at h; split at h <;> omega
  obtain ⟨q', hq'⟩ := h3 hp
  unfold rn; rw [hq', cast]
  split
  ·exact ⟨-q', by rw [Int.neg_mul]⟩
  ·exact ⟨q', rfl⟩
theorem rn_dvd {z : Int} {k : Nat} (h : (2 : Int) ^ k ∣ z) : (2 : Int) ^ k ∣ rn z := by
 obtain ⟨q,rfl⟩ := h
 rw [Int.mul_comm,rn_scale]; exact ⟨rn q,Int.mul_comm _ _⟩
theorem rest_le_right {q x : Int} (hq : rep q) : (q + x - rn (q + x)).natAbs ≤ x.natAbs := by
 have := rn_near (q + x) q hq; omega
theorem dvd_lt {k j : Nat} {x : Int} (h : (2 : Int) ^ k ∣ x) (h0 : x ≠ 0) (hl : x.natAbs < 2 ^ j) : k < j := by
 have h1 : 2 ^ k ≤ x.natAbs := by
  have := Int.natAbs_dvd_natAbs.2 h
  rw [Int.natAbs_pow] at this
  exact Nat.le_of_dvd (by omega) this
 exact (Nat.pow_lt_pow_iff_right (show 1 < 2 by omega)).1 (Nat.lt_of_le_of_lt h1 hl)
theorem dvd_mono {k j : Nat} (h : k ≤ j) {x : Int} (hx : (2 : Int) ^ j ∣ x) : (2 : Int) ^ k ∣ x := by
 refine Int.dvd_trans ?_ hx
 exact ⟨2 ^ (j - k),by rw [← Int.pow_add,show k + (j - k) = j by omega]⟩
def nov : Nat → List Int → Prop
 | _,[] => True
 | p,x :: r => x ≠ 0 ∧ (∃ k : Nat,p < 2 ^ k ∧ (2 : Int) ^ k ∣ x) ∧ nov x.natAbs r
theorem nov_all {p : Nat} {x : Int} {r : List Int} (h : nov p (x :: r)) {k : Nat} (hk : (2 : Int) ^ k ∣ x) : ∀ y,y ∈ r → (2 : Int) ^ k ∣ y := by
 induction r generalizing p x k with
 | nil => intro y hy; cases hy
 | cons z r ih =>
  obtain ⟨h1,_,h3⟩ := h
  obtain ⟨z1,⟨j,hj1,hj2⟩,z3⟩ := h3
  have hkj := dvd_lt hk h1 hj1
  have hz := dvd_mono (Nat.le_of_lt hkj) hj2
  intro y hy
  rcases List.mem_cons.1 hy with e | e
  ·subst e; exact hz
  ·exact ih (p := x.natAbs) ⟨z1,⟨j,hj1,hj2⟩,z3⟩ hz y e
theorem nov_mono {p p' : Nat} (h : p' ≤ p) {l : List Int} (hl : nov p l) : nov p' l := by
 cases l with
 | nil => trivial
 | cons x r => exact ⟨hl.1,hl.2.1.imp fun k hk => ⟨Nat.lt_of_le_of_lt h hk.1,hk.2⟩,hl.2.2⟩
def growGo : Int → List Int → List Int
 | q,[] => if q = 0 then [] else [q]
 | q,x :: r => if q + x - rn (q + x) = 0 then growGo (rn (q + x)) r else (q + x - rn (q + x)) :: growGo (rn (q + x)) r
theorem growGo_sum (e : List Int) : ∀ q,isum (growGo q e) = q + isum e := by
 induction e with
 | nil => intro q; unfold growGo; split <;> simp [isum] <;> omega
 | cons x r ih =>
  intro q; unfold growGo
  split
  ·rw [ih]; simp only [isum]; omega
  ·simp only [isum,ih]; omega
theorem growGo_len (e : List Int) : ∀ q,(growGo q e).length ≤ e.length + 1 := by
 induction e with
 | nil => intro q; unfold growGo; split <;> simp
 | cons x r ih =>
  intro q; unfold growGo
  have := ih (rn (q + x))
  split
  ·simp only [List.length_cons]; omega
  ·simp only [List.length_cons]; omega
theorem growGo_nz (e : List Int) : ∀ q,∀ y,y ∈ growGo q e → y ≠ 0 := by
 induction e with
 | nil =>
  intro q y hy; unfold growGo at hy; split at hy
  ·cases hy
  ·rename_i h; simp at hy; rw [hy]; exact h
 | cons x r ih =>
  intro q y hy; unfold growGo at hy
  split at hy
  ·exact ih _ y hy
  ·rename_i h
   rcases List.mem_cons.1 hy with e | e
   ·rw [e]; exact h
   ·exact ih _ y e
theorem growGo_dvd (k : Nat) (e : List Int) : ∀ q,(2 : Int) ^ k ∣ q → (∀ y,y ∈ e → (2 : Int) ^ k ∣ y) → ∀ y,y ∈ growGo q e → (2 : Int) ^ k ∣ y := by
 induction e with
 | nil =>
  intro q hq _ y hy; unfold growGo at hy; split at hy
  ·cases hy
  ·simp at hy; rw [hy]; exact hq
 | cons x r ih =>
  intro q hq he y hy; unfold growGo at hy
  have hs : (2 : Int) ^ k ∣ q + x := Int.dvd_add hq (he x (List.mem_cons_self ..))
  have hr := rn_dvd hs
  split at hy
  ·exact ih _ hr (fun y hy => he y (List.mem_cons_of_mem _ hy)) y hy
  ·rcases List.mem_cons.1 hy with e | e
   ·rw [e]; exact Int.dvd_sub hs hr
   ·exact ih _ hr (fun y hy => he y (List.mem_cons_of_mem _ hy)) y e
theorem growGo_rep (e : List Int) : ∀ q,rep q → (∀ y,y ∈ e → rep y) → ∀ y,y ∈ growGo q e → rep y := by
 induction e with
 | nil =>
  intro q hq _ y hy; unfold growGo at hy; split at hy
  ·cases hy
  ·simp at hy; rw [hy]; exact hq
 | cons x r ih =>
  intro q hq he y hy; unfold growGo at hy
  split at hy
  ·exact ih _ (rep_rn _) (fun y hy => he y (List.mem_cons_of_mem _ hy)) y hy
  ·rcases List.mem_cons.1 hy with e | e
   ·rw [e]; exact sum_rest hq (he x (List.mem_cons_self ..))
   ·exact ih _ (rep_rn _) (fun y hy => he y (List.mem_cons_of_mem _ hy)) y e
theorem growGo_nov (e : List Int) : ∀ (p c : Nat) (q : Int),rep q → (∃ k : Nat,p < 2 ^ k ∧ (2 : Int) ^ k ∣ q ∧ ∀ y,y ∈ e → (2 : Int) ^ k ∣ y) → nov c e → nov p (growGo q e) := by
 induction e with
 | nil =>
  intro p c q _ ⟨k,h1,h2,_⟩ _
  unfold growGo; split
  ·trivial
  ·rename_i h; exact ⟨h,⟨k,h1,h2⟩,trivial⟩
 | cons x r ih =>
  intro p c q hq ⟨k,h1,h2,h3⟩ hn
  have hs : (2 : Int) ^ k ∣ q + x := Int.dvd_add h2 (h3 x (List.mem_cons_self ..))
  have hr := rn_dvd hs
  unfold growGo
  split
  ·exact ih p x.natAbs _ (rep_rn _) ⟨k,h1,hr,fun y hy => h3 y (List.mem_cons_of_mem _ hy)⟩ hn.2.2
  ·rename_i hne
   refine ⟨hne,⟨k,h1,Int.dvd_sub hs hr⟩,?_⟩
   refine ih _ x.natAbs _ (rep_rn _) ?_ hn.2.2
   obtain ⟨ks,⟨qs,hqs⟩,he,h5,h6⟩ := rn_unit (q + x)
   clear h5 h6
   have hlt : (q + x - rn (q + x)).natAbs < 2 ^ ks := by
    have := two_pow_pos ks; omega
   have hle := rest_le_right (x := x) hq
   cases r with
   | nil => exact ⟨ks,hlt,⟨qs,by rw [hqs,Int.mul_comm]⟩,fun y hy => by cases hy⟩
   | cons z r =>
    obtain ⟨j,hj1,hj2⟩ := hn.2.2.2.1
    have hall := nov_all hn.2.2 hj2
    refine ⟨min ks j,?_,dvd_mono (Nat.min_le_left _ _) ⟨qs,by rw [hqs,Int.mul_comm]⟩,?_⟩
    ·by_cases hc : ks ≤ j
     ·rw [Nat.min_eq_left hc]; exact hlt
     ·rw [Nat.min_eq_right (by omega)]; omega
    ·intro y hy
     refine dvd_mono (Nat.min_le_right _ _) ?_
     rcases List.mem_cons.1 hy with e | e
     ·rw [e]; exact hj2
     ·exact hall y e
theorem rest_small (z : Int) : 2 ^ 53 * (z - rn z).natAbs ≤ z.natAbs := by
 obtain ⟨k,h4,h1,h2,h3⟩ := rn_unit z
 clear h4 h3
 by_cases h : rn z = z
 ·rw [h]; simp
 ·have := (h2 h).1
  rw [Nat.pow_add] at this
  omega
def cutSum : Int → List Int → Nat
 | _,[] => 0
 | q,x :: r => (q + x - rn (q + x)).natAbs + cutSum (rn (q + x)) r
theorem growGo_abs1 (e : List Int) : ∀ q : Int,absSum (growGo q e) ≤ q.natAbs + absSum e + 2 * cutSum q e := by
 induction e with
 | nil => intro q; unfold growGo; split <;> simp [absSum,cutSum]
 | cons x r ih =>
  intro q; unfold growGo
  have := ih (rn (q + x))
  simp only [absSum,cutSum]
  split
  ·omega
  ·simp only [absSum]; omega
theorem cutSum_le (e : List Int) : ∀ (q : Int) (A : Nat),q.natAbs + absSum e ≤ A → 2 ^ 52 * cutSum q e ≤ e.length * (A + 2 * cutSum q e) := by
 induction e with
 | nil => intro q A _; simp [cutSum]
 | cons x r ih =>
  intro q A hA
  simp only [cutSum,absSum,List.length_cons] at *
  have h1 := rest_small (q + x)
  have h3 : (q + x).natAbs ≤ A := by omega
  generalize hh : (q + x - rn (q + x)).natAbs = H at *
  have h2 : (rn (q + x)).natAbs + absSum r ≤ A + H := by omega
  have h4 := ih (rn (q + x)) (A + H) h2
  generalize cutSum (rn (q + x)) r = C at *
  have e1 : (r.length + 1) * (A + 2 * (H + C)) = r.length * (A + 2 * (H + C)) + (A + 2 * (H + C)) := by rw [Nat.add_mul,Nat.one_mul]
  have e2 : r.length * (A + H + 2 * C) ≤ r.length * (A + 2 * (H + C)) := Nat.mul_le_mul_left _ (by omega)
  omega
theorem growGo_abs (q : Int) (e : List Int) (hl : e.length ≤ 2 ^ 10) : 2 ^ 40 * absSum (growGo q e) ≤ (2 ^ 40 + 1) * (q.natAbs + absSum e) := by
 have h1 := growGo_abs1 e q
 have h2 := cutSum_le e q _ (Nat.le_refl _)
 generalize absSum (growGo q e) = W at *
 generalize cutSum q e = C at *
 generalize q.natAbs + absSum e = A at *
 have h3 : e.length * (A + 2 * C) ≤ 2 ^ 10 * (A + 2 * C) := Nat.mul_le_mul_right _ hl
 omega
end Tvf
