/- Part of the proof. No conditions. -/
import Derived.Test.YtdoaniccefdkaaaGreatDoorZ3
import Derived.Test.YtdoaniccefdkaaaGreatDoorZ6
import Derived.DeepKeys4
import Derived.WideKeyPair
import Derived.Maps.OwnRows
import Derived.Sort.Grow

set_option linter.all false
/- expand.Mul, expand.Cmp: what they come to, and their walks. -/
namespace Go.Proofs.YtdoaniccefdkaaaGreatDoor
open Go.RowKit Tvf

def mulSt (e : List Nat) : List Nat → List Nat → List Nat
  | o, [] => o
  | o, y :: r => mulSt e (plusW o (scaleW e y)) r
def mulW (e f : List Nat) : List Nat := mulSt e [] f

theorem mulSt_snoc (e : List Nat) (l : List Nat) (x : Nat) : ∀ o, mulSt e o (l ++ [x]) = plusW (mulSt e o l) (scaleW e x) := by
  induction l with
  | nil => intro o; rfl
  | cons y r ih => intro o; exact ih _

theorem allB_len {l : List Nat} {a b : Nat} (h : allB l a b = true) : l.length ≤ 64 := by
  unfold allB at h
  rw [Bool.and_eq_true] at h
  exact of_decide_eq_true h.1

theorem exp_nil : ExpFacts [] 0 := by
  refine ⟨?_, ?_, trivial, rfl, by simp [absSum], all_true (by simp) (by simp)⟩
  · intro x hx; cases hx
  · intro x hx; cases hx

theorem absSum_safe {e : List Nat} (h : ∀ x, x ∈ e → safe x) : absSum (e.map fval) ≤ e.length * 2 ^ (unitE + 450) := by
  induction e with
  | nil => simp [absSum]
  | cons x r ih =>
    have := ih (fun y hy => h y (List.mem_cons_of_mem _ hy))
    have hx := (h x (List.mem_cons_self ..)).2.2
    simp only [List.map_cons, absSum, List.length_cons]
    rw [Nat.add_mul, Nat.one_mul]; exact Nat.le_trans (Nat.add_le_add hx this) (by rw [Nat.add_comm]; exact Nat.le_refl _)

theorem mul_bound {S p q : Int} {a b : Nat} (h : S * 2 ^ unitE = p * q) (hp : p.natAbs ≤ a * 2 ^ (unitE + 450)) (hq : q.natAbs ≤ b * 2 ^ (unitE + 450)) (ha : a ≤ 64) (hb : b ≤ 64) : S.natAbs ≤ 2 ^ capS := by
  have h1 := congrArg Int.natAbs h
  rw [Int.natAbs_mul, natAbs_two_pow] at h1
  have h2 : (p * q).natAbs ≤ (2 ^ 6 * 2 ^ (unitE + 450)) * (2 ^ 6 * 2 ^ (unitE + 450)) :=
    mul_natAbs_le (Nat.le_trans hp (Nat.mul_le_mul_right _ ha)) (Nat.le_trans hq (Nat.mul_le_mul_right _ hb))
  have h3 : (2 ^ 6 * 2 ^ (unitE + 450)) * (2 ^ 6 * 2 ^ (unitE + 450)) ≤ 2 ^ capS * 2 ^ unitE := by
    rw [← Nat.pow_add, ← Nat.pow_add, ← Nat.pow_add]
    exact Nat.pow_le_pow_right (by decide) (by decide)
  refine Nat.le_of_mul_le_mul_right ?_ (two_pow_pos unitE)
  rw [h1]
  exact Nat.le_trans h2 h3

theorem cap_sum {a b : Nat} (ha : a ≤ 8 * 2 ^ capS) (hb : b ≤ 2 ^ capS * 1024) : a + b ≤ 2 ^ capE * 128 := by
  have := capS_le
  generalize 2 ^ capE = Q at *
  generalize 2 ^ capS = P at *
  omega

theorem mul_steps {e : List Nat} (he : SafeL e) (f : List Nat) (hf : ∀ x, x ∈ f → safe x) (hfl : f.length ≤ 64) (n : Nat) (hn : n ≤ f.length) :
    ∃ S, ExpFacts (mulSt e [] (f.take n)) S ∧ S * 2 ^ unitE = isum (e.map fval) * isum ((f.take n).map fval) ∧
      (∀ m : Nat, (∀ x, x ∈ e → ∀ y, y ∈ f → (2 : Int) ^ (m + unitE) ∣ fval x * fval y) → ∀ z, z ∈ mulSt e [] (f.take n) → (2 : Int) ^ m ∣ fval z) ∧
      (∀ T, ExpFacts (mulSt e [] (f.take n)) T → absSum ((mulSt e [] (f.take n)).map fval) ≤ 8 * 2 ^ capS) := by
  have hea := absSum_safe he.safe
  have hel := he.len
  have hes := isum_le (e.map fval)
  have bound : ∀ n S, n ≤ f.length → S * 2 ^ unitE = isum (e.map fval) * isum ((f.take n).map fval) → S.natAbs ≤ 2 ^ capS := by
    intro n S hn h
    have hft : ∀ x, x ∈ f.take n → safe x := fun x hx => hf x (List.mem_of_mem_take hx)
    have h2 := absSum_safe hft
    have h3 := isum_le ((f.take n).map fval)
    exact mul_bound h (Nat.le_trans hes hea) (Nat.le_trans h3 h2) hel (by rw [List.length_take]; omega)
  induction n with
  | zero =>
    refine ⟨0, by simpa [mulSt] using exp_nil, by simp [isum], ?_, fun T _ => by simp [mulSt, absSum]⟩
    intro m _ z hz; simp [mulSt] at hz
  | succ n ih =>
    obtain ⟨S, g1, g2, g3, g4⟩ := ih (by omega)
    have hlt : n < f.length := by omega
    have hy := hf _ (getD_mem hlt)
    obtain ⟨_, ⟨S2, s1, s2⟩, _, _, _, s3, s4⟩ := scale_facts he hy
    have hS := bound n S (by omega) g2
    have ga := g1.abs
    have hpf := plus_facts (e := mulSt e [] (f.take n)) (f := scaleW e (f.getD n 0)) g1.fins s1.fins (by have := allB_len g1.all; have := allB_len s1.all; omega) (cap_sum (Nat.le_trans ga (Nat.mul_le_mul_left _ hS)) s4)
    have hsn := mulSt_snoc e (f.take n) (f.getD n 0) []
    rw [← take_snoc' f n hlt] at hsn
    have hts := (take_sum f n hlt).1
    rw [hsn]
    have hnew := hpf.2.1
    rw [g1.sum, s1.sum] at hnew
    have hq : (S + S2) * 2 ^ unitE = isum (e.map fval) * isum ((f.take (n + 1)).map fval) := by
      rw [hts, Int.add_mul, g2, s2, Int.mul_add]
    refine ⟨S + S2, hnew, hq, ?_, ?_⟩
    · intro m hm
      exact hpf.2.2 m (g3 m hm) (s3 m (fun x hx => hm x hx _ (getD_mem hlt)))
    · intro T hT
      have hb := bound (n + 1) (S + S2) hn hq
      exact Nat.le_trans hnew.abs (Nat.mul_le_mul_left _ hb)

theorem mul_facts {e f : List Nat} (he : SafeL e) (hf : SafeL f) : ∃ S, ExpFacts (mulW e f) S ∧ S * 2 ^ unitE = isum (e.map fval) * isum (f.map fval) ∧ S.natAbs ≤ 2 ^ capS ∧
      (∀ m : Nat, (∀ x, x ∈ e → ∀ y, y ∈ f → (2 : Int) ^ (m + unitE) ∣ fval x * fval y) → ∀ z, z ∈ mulW e f → (2 : Int) ^ m ∣ fval z) := by
  obtain ⟨S, h1, h2, h3, _⟩ := mul_steps he f hf.safe hf.len f.length (Nat.le_refl _)
  rw [List.take_of_length_le (Nat.le_refl _)] at h1 h2 h3
  refine ⟨S, h1, h2, ?_, h3⟩
  exact mul_bound h2 (Nat.le_trans (isum_le _) (absSum_safe he.safe)) (Nat.le_trans (isum_le _) (absSum_safe hf.safe)) he.len hf.len

set_option maxRecDepth 100000 in
set_option maxHeartbeats 2000000 in
theorem mul_walk (e f : List Nat) (ve vf : Value) (he : SafeL e) (hf : SafeL f) (w : World) (hve : FSl w ve e) (hvf : FSl w vf f) :
    Calls Tryz.prog 189 #[ve, vf] w fun r w' => ∃ v', r = .returned (.tuple #[v', .bool true]) ∧ FSl w' v' (mulW e f) ∧ Below w.heap.size w w' := by
  have HSe := Lib.hid (safe_all_walk e ve he.fins w hve)
  have HSf := Lib.hid (safe_all_walk f vf hf.fins w hvf)
  rw [he.all] at HSe
  rw [hf.all] at HSf
  have HST := Lib.hid (fun n hn => mul_steps he f hf.safe hf.len n hn)
  have HSC := Lib.hid (fun y hy => scale_walk e ve y he (hf.safe y hy))
  have HSF := Lib.hid (fun y hy => scale_facts he (hf.safe y hy))
  have hfl := hf.len
  have HVE := Lib.hid hve
  obtain ⟨ad, cap, rfl, hcell⟩ := hvf.form
  have HC := Lib.hid hcell
  clear hve hvf hcell he hf
  go_enter Tryz.func189, Tryz.ntmps189
  go_wp2_with (go_at_call 254; (first | (with_reducible refine (HSe.out).mono ?_) | (with_reducible refine (HSf.out).mono ?_)); rintro r w' ⟨rfl, rfl⟩)
  go_loopw [6, 21] (fun out i wr => ∃ n : Nat, n ≤ f.length ∧ i = .int .i64 n ∧ Hid (FSl wr out (mulSt e [] (f.take n))) ∧ Below w.heap.size w wr) (fun _ i _ => f.length - (intOf i).toNat)
  case atStart => exact ⟨0, Nat.zero_le _, rfl, ⟨by simp [mulSt], by simp [mulSt], Or.inl ⟨rfl, rfl⟩⟩, Below.refl _ _⟩
  case round =>
    obtain ⟨n, hn, rfl, HO, hbw⟩ := hrel
    by_cases hlt : n < f.length
    · obtain ⟨bb, off, rfl, hbb, hc⟩ := HC.out (by omega)
      have hck : wr.cell? ⟨bb, off + n, none⟩ = some (.float .f64 (f.getD n 0)) := (hbw.cell (p := ⟨bb, off + n, none⟩) hbb).trans (hc n hlt)
      obtain ⟨S, g1, g2, _, g4⟩ := HST.out n hn
      obtain ⟨_, ⟨S2, s1, _⟩, _, _, _, _, s4⟩ := HSF.out (f.getD n 0) (getD_mem hlt)
      have ga := g4 S g1
      have hA : absSum ((mulSt e [] (f.take n)).map fval) + absSum ((scaleW e (f.getD n 0)).map fval) ≤ 2 ^ capE * 128 := cap_sum ga s4
      have hsn := mulSt_snoc e (f.take n) (f.getD n 0) []
      rw [← take_snoc' f n hlt] at hsn
      have HS := Lib.hid hsn
      have HSC1 := Lib.hid (HSC.out (f.getD n 0) (getD_mem hlt))
      have HPL := Lib.hid (fun w va vb => plus_walk (mulSt e [] (f.take n)) (scaleW e (f.getD n 0)) va vb g1.fins s1.fins (by have := allB_len g1.all; have := allB_len s1.all; omega) hA w)
      clear hc g1 g2 g4 s1 s4 ga hA hsn HST HSF HSC
      generalize mulSt e [] (f.take n) = o at *
      generalize scaleW e (f.getD n 0) = sc at *
      generalize f.getD n 0 = y at *
      go_wp2_with (first
        | (go_at_call 255; refine (HSC1.out _ (HVE.out.below hbw)).mono ?_; rintro r w1 ⟨v1, rfl, hf1, hb1⟩; have ho1 := HO.out.below hb1)
        | (go_at_call 256; refine (HPL.out _ _ _ ho1 hf1).mono ?_; rintro r w2 ⟨v2, rfl, hf2, hb2⟩))
      have s1 := hb1.size
      have s0 := hbw.size
      go_roundw
      case rel => exact ⟨n + 1, by omega, by go_num, by rw [HS.out]; exact hf2, (hbw.trans (hb1.mono s0)).trans (hb2.mono (by omega))⟩
      case measure => simp [intOf]; omega
    · have hnl : n = f.length := by omega
      subst hnl
      have HO2 : Hid (FSl wr u6 (mulW e f)) := by have := HO.out; rw [List.take_of_length_le (Nat.le_refl _)] at this; exact this
      clear HO HST HSC HSF
      go_wp2
      go_ret2
      exact ⟨_, rfl, HO2, hbw⟩

theorem isum_neg (l : List Nat) (h : ∀ x, x ∈ l → fin x) : isum ((l.map fopp).map fval) = -isum (l.map fval) ∧ absSum ((l.map fopp).map fval) = absSum (l.map fval) := by
  induction l with
  | nil => exact ⟨rfl, rfl⟩
  | cons x r ih =>
    obtain ⟨h1, h2⟩ := ih (fun y hy => h y (List.mem_cons_of_mem _ hy))
    have hx := fopp_val (h x (List.mem_cons_self ..)).1
    simp only [List.map_cons, isum, absSum, h1, h2, hx]
    exact ⟨by omega, by omega⟩

/-- what is below 2^990 may be -/
theorem check_true {l : List Nat} {S : Int} (h : ExpFacts l S) (hS : S.natAbs ≤ 2 ^ capS * 16) : allB l 1 9065746049896808448 = true := by
  have hc : fin 9065746049896808448 := by unfold fin; omega
  have hv : fval 9065746049896808448 = 2 ^ (unitE + 990) := fval_pow (F := 2013) (by unfold fin; omega) (by omega) (by omega) (by omega) (by omega) rfl
  refine all_true (allB_len h.all) (good_of_nov l h.fins 0 h.novs _ _ ?_)
  intro x hx
  have hf := h.fins x hx
  unfold withinB
  rw [fge_val (fin_abs hf) fin_tiny, fval_abs, fval_tiny, fle_val (fin_abs hf) hc, fval_abs, hv]
  have h1 := absSum_mem (List.mem_map_of_mem (f := fval) hx)
  have h2 := h.abs
  have h0 := h.nz x hx
  have h3 : 2 ^ capS * 128 ≤ 2 ^ (unitE + 990) := by
    rw [show (128 : Nat) = 2 ^ 7 from rfl, ← Nat.pow_add]
    exact Nat.pow_le_pow_right (by decide) (by decide)
  obtain ⟨q, hq⟩ : ∃ q : Nat, q = 2 ^ (unitE + 990) := ⟨_, rfl⟩
  have c2 : (q : Int) = (2 : Int) ^ (unitE + 990) := by rw [hq]; simp
  rw [← c2]
  rw [← hq] at h3
  clear c2 hq hv
  have d1 : decide ((1 : Int) ≤ ((fval x).natAbs : Int)) = true := by simp; omega
  have d2 : decide (((fval x).natAbs : Int) ≤ (q : Int)) = true := by simp; omega
  rw [d1, d2]; rfl

theorem sgnI_mul {z : Int} {k : Nat} : sgnI (z * 2 ^ k) = sgnI z := by
  have hp : (0 : Int) < 2 ^ k := Int.pow_pos (by omega)
  unfold sgnI
  by_cases h1 : z < 0
  · rw [if_pos h1, if_pos (Int.mul_neg_of_neg_of_pos h1 hp)]
  · rw [if_neg h1, if_neg (by have := Int.mul_nonneg (show 0 ≤ z by omega) (Int.le_of_lt hp); omega)]
    by_cases h2 : 0 < z
    · rw [if_pos h2, if_pos (Int.mul_pos h2 hp)]
    · have : z = 0 := by omega
      subst this; simp

set_option maxRecDepth 100000 in
set_option maxHeartbeats 2000000 in
theorem cmp_walk (e f : List Nat) (ve vf : Value) (S T : Int) (he : ExpFacts e S) (hf : ExpFacts f T) (hS : S.natAbs ≤ 2 ^ capS) (hT : T.natAbs ≤ 2 ^ capS) (w : World) (hve : FSl w ve e) (hvf : FSl w vf f) :
    Calls Tryz.prog 190 #[ve, vf] w fun r w' => r = .returned (.int .i64 (sgnI (S - T))) ∧ Below w.heap.size w w' := by
  have hS2 : S.natAbs ≤ 2 ^ capS * 16 := by generalize 2 ^ capS = P at *; omega
  have hT2 : T.natAbs ≤ 2 ^ capS * 16 := by generalize 2 ^ capS = P at *; omega
  have HCe := Lib.hid (check_walk e ve he.fins w hve)
  have HCf := Lib.hid (check_walk f vf hf.fins w hvf)
  rw [check_true he hS2] at HCe
  rw [check_true hf hT2] at HCf
  have hle := allB_len he.all
  have hlf := allB_len hf.all
  have HN := Lib.hid (neg_walk f vf w (by omega) hvf)
  have hfn : ∀ x, x ∈ f.map fopp → fin x := fun x hx => by
    obtain ⟨y, hy, rfl⟩ := List.mem_map.1 hx; exact fopp_fin (hf.fins y hy)
  obtain ⟨n1, n2⟩ := isum_neg f hf.fins
  have hA : absSum (e.map fval) + absSum ((f.map fopp).map fval) ≤ 2 ^ capE * 128 := by
    rw [n2]
    refine cap_sum (Nat.le_trans he.abs (Nat.mul_le_mul_left _ hS)) (Nat.le_trans hf.abs ?_)
    generalize 2 ^ capS = P at *; omega
  have hpl : e.length + (f.map fopp).length ≤ 1000 := by rw [List.length_map]; omega
  obtain ⟨_, hp, _⟩ := plus_facts he.fins hfn hpl hA
  rw [n1, he.sum, hf.sum] at hp
  have HPL := Lib.hid (fun w va vb => plus_walk e (f.map fopp) va vb he.fins hfn hpl hA w)
  have hchk := check_true hp (by generalize 2 ^ capS = P at *; omega)
  have HSG : Hid (∀ w v, FSl w v (plusW e (f.map fopp)) → Calls Tryz.prog 238 #[v] w fun r w' => r = .returned (.int .i64 (sgnI (S - T))) ∧ w = w') := fun w v hv => by
    have := sign_walk (plusW e (f.map fopp)) v hp.fins hp.novs hchk w hv
    rw [hp.sum, show S + -T = S - T by omega] at this
    exact this
  have HVE := Lib.hid hve
  clear he hf hS hT hS2 hT2 hvf hfn n1 n2 hA hpl hp hchk hle hlf hve
  generalize sgnI (S - T) = R at *
  go_enter Tryz.func190, Tryz.ntmps190
  go_wp2_with (first
    | (go_at_call 257; (first | (with_reducible refine (HCe.out).mono ?_) | (with_reducible refine (HCf.out).mono ?_)); rintro r w' ⟨rfl, rfl⟩)
    | (go_at_call 236; refine (HN.out).mono ?_; rintro r w1 ⟨v1, rfl, hf1, hb1⟩; have he1 := HVE.out.below hb1)
    | (go_at_call 256; refine (HPL.out _ _ _ he1 hf1).mono ?_; rintro r w2 ⟨v2, rfl, hf2, hb2⟩)
    | (go_at_call 238; refine (HSG.out _ _ hf2).mono ?_; rintro r w3 ⟨rfl, rfl⟩))
  go_ret
  exact ⟨rfl, hb1.trans (hb2.mono hb1.size)⟩

end Go.Proofs.YtdoaniccefdkaaaGreatDoor

/- orient's exact difference: the closure, and what it comes to. -/
namespace Go.Proofs.YtdoaniccefdkaaaGreatDoor
open Go.RowKit Tvf

/-- a difference, exactly: what is rounded off, and the rounded one -/
def lessW (x y : Nat) : List Nat := keepF (sumLo x (fopp y)) ++ keepF (sumHi x (fopp y))

def lessPre (lo hi : Nat) : Nat → List Nat
  | 0 => []
  | 1 => keepF lo
  | _ => keepF lo ++ keepF hi

theorem keepF_len (x : Nat) : (keepF x).length ≤ 1 := by unfold keepF; split <;> simp

set_option maxRecDepth 100000 in
set_option maxHeartbeats 2000000 in
theorem less_walk (x y : Nat) (hx : tame x) (hy : tame y) (w : World) :
    Calls Tryz.prog 187 #[.float .f64 x, .float .f64 y] w fun r w' => ∃ v', r = .returned v' ∧ OwnF w' w.heap.size v' (lessW x y) ∧ Below w.heap.size w w' := by
  have HD := Lib.hid (diff_walk x y hx hy)
  have HL : Hid (lessW x y = lessPre (sumLo x (fopp y)) (sumHi x (fopp y)) 2) := rfl
  obtain ⟨i0, hi, hz0, hz1, hz2⟩ := info_parts infoF
  clear hx hy
  generalize sumLo x (fopp y) = lo at *
  generalize sumHi x (fopp y) = hh at *
  go_enter Tryz.func187, Tryz.ntmps187
  go_wp2_with (go_at_call 188; refine (HD.out _).mono ?_; rintro r w1 ⟨rfl, hb1⟩)
  have s1 := hb1.size
  go_loopw [7, 20] (fun e i wr => ∃ n : Nat, n ≤ 2 ∧ i = .int .i64 n ∧ OwnF wr (w1.heap.size + 1) e (lessPre lo hh n) ∧ wr.cell? ⟨w1.heap.size, 0, none⟩ = some (.float .f64 lo) ∧ wr.cell? ⟨w1.heap.size, 1, none⟩ = some (.float .f64 hh) ∧ Below (w1.heap.size + 1) (w1.alloc (.cells #[.float .f64 lo, .float .f64 hh] 50)) wr) (fun _ i _ => 2 - (intOf i).toNat)
  case atStart =>
    refine ⟨0, by omega, rfl, World.ownsRow_nil _ _ _ _, ?_, ?_, Below.refl _ _⟩
    · rw [World.cell?_alloc_at _ _ _ _ rfl]; rfl
    · rw [World.cell?_alloc_at _ _ _ _ rfl]; rfl
  case round =>
    obtain ⟨n, hn, rfl, hown, hc0, hc1, hbw⟩ := hrel
    have hsz := hbw.size
    simp at hsz
    have hcase : n = 0 ∨ n = 1 ∨ n = 2 := by omega
    rcases hcase with rfl | rfl | rfl
    · have HP0 : Hid (lessPre lo hh 1 = lessPre lo hh 0 ++ keepF lo) := by unfold Hid; simp [lessPre]
      have HLn : Hid ((lessPre lo hh 0).length ≤ 4) := by have := keepF_len lo; unfold Hid; simp [lessPre]; try omega
      generalize lessPre lo hh 0 = o at *
      cases hne : fne lo 0
      · have hkp : Hid (keepF lo = []) := by unfold Hid keepF; rw [hne]; rfl
        go_wp2
        go_roundw
        case rel => exact ⟨1, by omega, by first | rfl | go_num, by rw [HP0.out, hkp.out, List.append_nil]; exact hown, hc0, hc1, hbw⟩
        case measure => simp [intOf]
      · have hkp : Hid (keepF lo = [lo]) := by unfold Hid keepF; rw [hne]; rfl
        go_wp2_with (at_builtin; refine wpList_append_own _ rfl _ _ 227 rfl (w1.heap.size + 1) 50 i0 (.float .f64 0) 1 8 Tryz.underlying227 hi hz0 hz1 hz2 rfl (by decide) _ _ _ rfl (hown.alloc _) ⟨wr.heap.size, 0, none⟩ 1 1 [.float .f64 lo] rfl rfl ?c1 ?c2 ?c3 ?c4 ?c5 ?_)
        case c1 =>
          intro j u hj
          match j, hj with
          | 0, hj => simp at hj; subst hj; simp [Addr.add]
        case c2 => exact float_oneCell _
        case c3 => have := HLn.out; unfold maxLen; omega
        case c4 => have := HLn.out; omega
        case c5 => simp; omega
        intro v' w2 hown2 hgrow2 _
        have hlt1 := World.ownsRow.lt hown
        have hb2 : Below (w1.heap.size + 1) wr w2 := ((Below.refl _ _).alloc (by omega) _).grown hgrow2 (by simp; omega) (fun kk hkk => (hlt1 kk hkk).1)
        have hown3 : OwnF w2 (w1.heap.size + 1) v' (o ++ [lo]) := by unfold OwnF; rw [List.length_append, List.map_append]; exact hown2
        have hc0' : w2.cell? ⟨w1.heap.size, 0, none⟩ = some (.float .f64 lo) := (hb2.cell (p := ⟨w1.heap.size, 0, none⟩) (by simp)).trans hc0
        have hc1' : w2.cell? ⟨w1.heap.size, 1, none⟩ = some (.float .f64 hh) := (hb2.cell (p := ⟨w1.heap.size, 1, none⟩) (by simp)).trans hc1
        clear hown2 hgrow2 hlt1 hown hc0 hc1
        go_wp2
        go_roundw
        case rel => exact ⟨1, by omega, by first | rfl | go_num, by rw [HP0.out, hkp.out]; exact hown3, hc0', hc1', hbw.trans hb2⟩
        case measure => simp [intOf]
    · have HP0 : Hid (lessPre lo hh 2 = lessPre lo hh 1 ++ keepF hh) := by unfold Hid; rfl
      have HLn : Hid ((lessPre lo hh 1).length ≤ 4) := by have := keepF_len lo; unfold Hid; simp [lessPre]; try omega
      generalize lessPre lo hh 1 = o at *
      cases hne : fne hh 0
      · have hkp : Hid (keepF hh = []) := by unfold Hid keepF; rw [hne]; rfl
        go_wp2
        go_roundw
        case rel => exact ⟨2, by omega, by first | rfl | go_num, by rw [HP0.out, hkp.out, List.append_nil]; exact hown, hc0, hc1, hbw⟩
        case measure => simp [intOf]
      · have hkp : Hid (keepF hh = [hh]) := by unfold Hid keepF; rw [hne]; rfl
        go_wp2_with (at_builtin; refine wpList_append_own _ rfl _ _ 227 rfl (w1.heap.size + 1) 50 i0 (.float .f64 0) 1 8 Tryz.underlying227 hi hz0 hz1 hz2 rfl (by decide) _ _ _ rfl (hown.alloc _) ⟨wr.heap.size, 0, none⟩ 1 1 [.float .f64 hh] rfl rfl ?c1 ?c2 ?c3 ?c4 ?c5 ?_)
        case c1 =>
          intro j u hj
          match j, hj with
          | 0, hj => simp at hj; subst hj; simp [Addr.add]
        case c2 => exact float_oneCell _
        case c3 => have := HLn.out; unfold maxLen; omega
        case c4 => have := HLn.out; omega
        case c5 => simp; omega
        intro v' w2 hown2 hgrow2 _
        have hlt1 := World.ownsRow.lt hown
        have hb2 : Below (w1.heap.size + 1) wr w2 := ((Below.refl _ _).alloc (by omega) _).grown hgrow2 (by simp; omega) (fun kk hkk => (hlt1 kk hkk).1)
        have hown3 : OwnF w2 (w1.heap.size + 1) v' (o ++ [hh]) := by unfold OwnF; rw [List.length_append, List.map_append]; exact hown2
        have hc0' : w2.cell? ⟨w1.heap.size, 0, none⟩ = some (.float .f64 lo) := (hb2.cell (p := ⟨w1.heap.size, 0, none⟩) (by simp)).trans hc0
        have hc1' : w2.cell? ⟨w1.heap.size, 1, none⟩ = some (.float .f64 hh) := (hb2.cell (p := ⟨w1.heap.size, 1, none⟩) (by simp)).trans hc1
        clear hown2 hgrow2 hlt1 hown hc0 hc1
        go_wp2
        go_roundw
        case rel => exact ⟨2, by omega, by first | rfl | go_num, by rw [HP0.out, hkp.out]; exact hown3, hc0', hc1', hbw.trans hb2⟩
        case measure => simp [intOf]
    · go_wp2
      go_ret
      refine ⟨_, rfl, by rw [HL.out]; exact ownsRow_base hown (by omega), ?_⟩
      exact (hb1.alloc s1 _).trans (hbw.mono (by omega))

/-- the difference of two that may be: it may be multiplied -/
theorem coord_tame {x : Nat} (h64 : x < 2 ^ 64) (h : coordB x = true) : fin x ∧ (fval x).natAbs ≤ 2 ^ (unitE + 100) ∧ (2 : Int) ^ gridE ∣ fval x ∧ tame x := by
  unfold coordB at h
  rw [Bool.and_eq_true] at h
  have h1 := fin_of_le h64 h.1
  have h2 := le_of_le h64 h.1
  refine ⟨h1, h2, ?_, h1, Nat.le_trans h2 (Nat.pow_le_pow_right (by decide) (by decide))⟩
  have h3 := of_decide_eq_true h.2
  have h4 : 2 ^ gridE ∣ (fval x).natAbs := Nat.dvd_of_mod_eq_zero h3
  have h5 : ((2 ^ gridE : Nat) : Int) ∣ fval x := Int.dvd_natAbs.1 (Int.natCast_dvd_natCast.2 h4)
  have cast : ((2 ^ gridE : Nat) : Int) = (2 : Int) ^ gridE := by simp
  rwa [cast] at h5

theorem less_facts {x y : Nat} (hx : x < 2 ^ 64) (hy : y < 2 ^ 64) (cx : coordB x = true) (cy : coordB y = true) :
    SafeL (lessW x y) ∧ isum ((lessW x y).map fval) = fval x - fval y ∧ ∀ z, z ∈ lessW x y → (2 : Int) ^ gridE ∣ fval z := by
  obtain ⟨x1, x2, x3, x4⟩ := coord_tame hx cx
  obtain ⟨y1, y2, y3, y4⟩ := coord_tame hy cy
  obtain ⟨d1, d2, d3, d4⟩ := diff_val x4 y4
  have k1 := keepF_vals d2
  have k2 := keepF_vals d1
  have hD : (2 : Int) ^ gridE ∣ fval x - fval y := Int.dvd_sub x3 y3
  have hR := rn_dvd hD
  have hDa : (fval x - fval y).natAbs ≤ 2 ^ (unitE + 101) := nsub_pow x2 y2 (by decide) (by decide)
  have hRa := rn_le_pow hDa
  have hrest := rest_small (fval x - fval y)
  have hfins : ∀ z, z ∈ lessW x y → fin z := by
    intro z hz
    unfold lessW at hz
    rcases List.mem_append.1 hz with h | h
    · exact k1.2 z h
    · exact k2.2 z h
  have hmem : ∀ z, z ∈ lessW x y → (z = sumLo x (fopp y) ∨ z = sumHi x (fopp y)) ∧ fval z ≠ 0 := by
    intro z hz
    have hf := hfins z hz
    unfold lessW keepF at hz
    rw [fne_zero d2, fne_zero d1] at hz
    rcases List.mem_append.1 hz with h | h
    · split at h
      · rename_i hc
        simp at h; subst h
        exact ⟨Or.inl rfl, by simpa using hc⟩
      · cases h
    · split at h
      · rename_i hc
        simp at h; subst h
        exact ⟨Or.inr rfl, by simpa using hc⟩
      · cases h
  have hgrid : ∀ z, z ∈ lessW x y → (2 : Int) ^ gridE ∣ fval z := by
    intro z hz
    rcases (hmem z hz).1 with h | h
    · rw [h, d4]; exact Int.dvd_sub hD hR
    · rw [h, d3]; exact hR
  have hsafe : ∀ z, z ∈ lessW x y → safe z := by
    intro z hz
    refine ⟨hfins z hz, ?_, ?_⟩
    · exact Nat.le_trans (Nat.pow_le_pow_right (by decide) (by decide)) (natAbs_ge_of_dvd (hgrid z hz) (hmem z hz).2)
    · have hb : (fval z).natAbs ≤ 2 ^ (unitE + 101) := by
        rcases (hmem z hz).1 with h | h
        · rw [h, d4]
          obtain ⟨q, hq⟩ : ∃ q : Nat, q = 2 ^ (unitE + 101) := ⟨_, rfl⟩
          rw [← hq] at hDa ⊢
          clear hq
          omega
        · rw [h, d3]; exact hRa
      exact Nat.le_trans hb (Nat.pow_le_pow_right (by decide) (by decide))
  have hsum : isum ((lessW x y).map fval) = fval x - fval y := by
    unfold lessW
    rw [List.map_append, isum_append, k1.1, k2.1]
    have e : ∀ z : Int, isum (if z = 0 then [] else [z]) = z := by
      intro z; split
      · rename_i h; rw [h]; rfl
      · simp [isum]
    rw [e, e, d3, d4]; omega
  have hnov : nov 0 ((lessW x y).map fval) := by
    unfold lessW
    rw [List.map_append, k1.1, k2.1]
    obtain ⟨k, ⟨q, hq⟩, h1, h2, h3⟩ := rn_unit (fval x - fval y)
    clear h3
    by_cases hl : fval (sumLo x (fopp y)) = 0
    · rw [if_pos hl]
      by_cases hh : fval (sumHi x (fopp y)) = 0
      · rw [if_pos hh]; trivial
      · rw [if_neg hh]; exact ⟨hh, ⟨0, by simp, by simp⟩, trivial⟩
    · rw [if_neg hl]
      by_cases hh : fval (sumHi x (fopp y)) = 0
      · rw [if_pos hh]; exact ⟨hl, ⟨0, by simp, by simp⟩, trivial⟩
      · rw [if_neg hh]
        refine ⟨hl, ⟨0, by simp, by simp⟩, hh, ⟨k, ?_, by rw [d3, hq]; exact ⟨q, Int.mul_comm _ _⟩⟩, trivial⟩
        rw [d4]
        have := two_pow_pos k
        clear hq
        omega
  exact ⟨⟨hfins, all_true (by unfold lessW; rw [List.length_append]; have := keepF_len (sumLo x (fopp y)); have := keepF_len (sumHi x (fopp y)); omega) (good_of_nov _ hfins 0 hnov _ _ (fun z hz => within_of_safe (hsafe z hz)))⟩, hsum, hgrid⟩

end Go.Proofs.YtdoaniccefdkaaaGreatDoor

/- orient.may over a list of points. -/
namespace Go.Proofs.YtdoaniccefdkaaaGreatDoor
open Go.RowKit Tvf

abbrev Pt := Nat × Nat
def ptOK (p : Pt) : Bool := coordB p.1 && coordB p.2
def pt64 (p : Pt) : Prop := p.1 < 2 ^ 64 ∧ p.2 < 2 ^ 64

/-- a slice of points that reads as a list of pairs of words -/
def PCells (w : World) (ad : Option Addr) (l : List Pt) : Prop :=
  0 < l.length → ∃ b off : Nat, ad = some ⟨b, off, none⟩ ∧ b < w.heap.size ∧ ∀ i, i < l.length → w.cell? ⟨b, off + i * 2, none⟩ = some (.float .f64 (l.getD i (0, 0)).1) ∧ w.cell? ⟨b, off + i * 2 + 1, none⟩ = some (.float .f64 (l.getD i (0, 0)).2)

theorem PCells.below {w w' : World} {ad : Option Addr} {l : List Pt} (h : PCells w ad l) (hb : Below w.heap.size w w') : PCells w' ad l := by
  intro h0
  obtain ⟨b, off, e, hlt, hc⟩ := h h0
  exact ⟨b, off, e, Nat.lt_of_lt_of_le hlt hb.size, fun i hi => ⟨by rw [hb.cell (p := ⟨b, off + i * 2, none⟩) hlt]; exact (hc i hi).1, by rw [hb.cell (p := ⟨b, off + i * 2 + 1, none⟩) hlt]; exact (hc i hi).2⟩⟩

theorem getD_memP {l : List Pt} {k : Nat} (h : k < l.length) : l.getD k (0, 0) ∈ l := by
  rw [List.getD_eq_getElem?_getD, List.getElem?_eq_getElem h]; exact List.getElem_mem h

theorem take_snocP (l : List Pt) (k : Nat) (h : k < l.length) : l.take (k + 1) = l.take k ++ [l.getD k (0, 0)] := by
  rw [List.take_succ_eq_append_getElem h, List.getD_eq_getElem?_getD, List.getElem?_eq_getElem h]; rfl

set_option maxRecDepth 100000 in
set_option maxHeartbeats 2000000 in
theorem orient_may (l : List Pt) (ad : Option Addr) (cap : Nat) (h64 : ∀ p, p ∈ l → pt64 p) (hlen : l.length ≤ 4294967296) (w : World) (hc : PCells w ad l) :
    Calls Tryz.prog 148 #[.slice ad l.length cap] w fun r w' => r = .returned (.bool (l.all ptOK)) ∧ Below w.heap.size w w' := by
  have HC := Lib.hid hc
  have H64 := Lib.hid h64
  clear hc h64
  go_enter Tryz.func148, Tryz.ntmps148
  go_wp2
  go_loopw [7] (fun i wr => ∃ n : Nat, n ≤ l.length ∧ i = .int .i64 n ∧ Hid ((l.take n).all ptOK = true) ∧ Below w.heap.size w wr) (fun i _ => l.length - (intOf i).toNat)
  case atStart => exact ⟨0, Nat.zero_le _, rfl, by simp [Hid], Below.refl _ _⟩
  case round =>
    obtain ⟨n, hn, rfl, HO, hbw⟩ := hrel
    by_cases hlt : n < l.length
    · obtain ⟨bb, off, rfl, hbb, hc⟩ := HC.out (by omega)
      have hcx : wr.cell? ⟨bb, off + n * 2, none⟩ = some (.float .f64 (l.getD n (0, 0)).1) := (hbw.cell (p := ⟨bb, off + n * 2, none⟩) hbb).trans (hc n hlt).1
      have hcy : wr.cell? ⟨bb, off + n * 2 + 1, none⟩ = some (.float .f64 (l.getD n (0, 0)).2) := (hbw.cell (p := ⟨bb, off + n * 2 + 1, none⟩) hbb).trans (hc n hlt).2
      clear hc
      have hm := getD_memP hlt
      have h64p := H64.out _ hm
      have HT := Lib.hid (take_snocP l n hlt)
      have HALL : Hid (ptOK (l.getD n (0, 0)) = false → l.all ptOK = false) := fun h => by
        rw [List.all_eq_false]; exact ⟨_, hm, by rw [h]; simp⟩
      have HXX := Lib.hid h64p.1
      have HYY := Lib.hid h64p.2
      have HPT : Hid (∀ a b, l.getD n (0, 0) = (a, b) → ptOK (l.getD n (0, 0)) = (coordB a && coordB b)) := fun a b h => by rw [h]; rfl
      clear hm h64p
      generalize l.getD n (0, 0) = p at *
      obtain ⟨x, y⟩ := p
      dsimp only at hcx hcy HXX HYY
      have HP2 := Lib.hid (HPT.out x y rfl)
      clear HPT
      have HCX := Lib.hid (orient_coordinate x HXX.out)
      have HCY := Lib.hid (orient_coordinate y HYY.out)
      have s0 := hbw.size
      cases hx : coordB x
      · have HF : Hid (l.all ptOK = false) := HALL.out (by rw [HP2.out, hx]; rfl)
        rw [hx] at HCX
        go_wp2_with (go_at_call 186; (first | (with_reducible refine (HCX.out _).mono ?_) | (with_reducible refine (HCY.out _).mono ?_)); rintro r w1 ⟨rfl, rfl⟩)
        go_ret
        exact ⟨by rw [HF.out]; rfl, hbw.alloc s0 _⟩
      · rw [hx] at HCX
        cases hy : coordB y
        · have HF : Hid (l.all ptOK = false) := HALL.out (by rw [HP2.out, hx, hy]; rfl)
          rw [hy] at HCY
          go_wp2_with (go_at_call 186; (first | (with_reducible refine (HCX.out _).mono ?_) | (with_reducible refine (HCY.out _).mono ?_)); rintro r w1 ⟨rfl, rfl⟩)
          go_ret
          exact ⟨by rw [HF.out]; rfl, hbw.alloc s0 _⟩
        · have HF : Hid ((l.take (n + 1)).all ptOK = true) := by
            unfold Hid
            rw [HT.out, List.all_append, HO.out]
            simp only [List.all_cons, List.all_nil, Bool.and_true, Bool.true_and]
            rw [HP2.out, hx, hy]; rfl
          rw [hy] at HCY
          go_wp2_with (go_at_call 186; (first | (with_reducible refine (HCX.out _).mono ?_) | (with_reducible refine (HCY.out _).mono ?_)); rintro r w1 ⟨rfl, rfl⟩)
          go_roundw
          case rel => exact ⟨n + 1, by omega, by go_num, HF, hbw.alloc s0 _⟩
          case measure => simp [intOf]; omega
    · have hnl : n = l.length := by omega
      subst hnl
      have HF : Hid (l.all ptOK = true) := by have := HO.out; rw [List.take_of_length_le (Nat.le_refl _)] at this; exact this
      go_wp2
      go_ret
      exact ⟨by rw [HF.out]; rfl, hbw⟩

end Go.Proofs.YtdoaniccefdkaaaGreatDoor

/- The keys of a mesh's maps, and what a mesh is in memory. -/
namespace Go.Proofs.YtdoaniccefdkaaaGreatDoor
open Go.RowKit Go.Maps Go.WideMaps

theorem laidOut : laidOutB Tryz.prog = true := by kernel_rfl
theorem edgeArr : ArrKey Tryz.prog 117 3 2 := ⟨Tryz.underlying117, by kernel_rfl, by kernel_rfl, by kernel_rfl⟩
theorem edgeRow : Tryz.prog.types.size.ble 117 = false := by kernel_rfl
theorem edgeRow' : (117 : TypeId) < Tryz.prog.types.size := Nat.lt_of_not_le fun h => Bool.noConfusion (edgeRow.symm.trans (Nat.ble_eq_true_of_le h))
theorem edgeDeep : Tryz.prog.keyTypeAt 2 117 = true := by kernel_rfl
theorem edgeLaw : Keyed Tryz.prog 117 := Keyed.of_law (deep_law_laid laidOut (m := 2) (by omega) edgeRow' edgeDeep (by rw [Tryz.underlying117]))
theorem intLaw : Keyed Tryz.prog 3 := int_keyed Tryz.underlying3
theorem succ_of_lt {n k : Nat} (h : k < n) : ∃ m, n = m + 1 := ⟨n - 1, by omega⟩
theorem typesSucc : ∃ m, Tryz.prog.types.size = m + 1 := succ_of_lt edgeRow'

def i64ok (a : Int) : Prop := -9223372036854775808 ≤ a ∧ a < 9223372036854775808
theorem wf_of {a : Int} (h : i64ok a) : (Lit.int .i64 a).wf = true := by unfold i64ok at h; simp [Lit.wf, IntKind.min, IntKind.max, IntKind.bits, IntKind.signed]; omega
theorem of_wf {a : Int} (h : (Lit.int .i64 a).wf = true) : i64ok a := by unfold i64ok; simp [Lit.wf, IntKind.min, IntKind.max, IntKind.bits, IntKind.signed] at h; omega

def kE (a b : Int) : Value := .agg #[.int .i64 a, .int .i64 b]
def vI (a : Int) : Value := .int .i64 a
theorem kE_inj {a b c d : Int} : kE a b = kE c d ↔ a = c ∧ b = d := by simp [kE]
theorem vI_inj {a b : Int} : vI a = vI b ↔ a = b := by simp [vI]

theorem keyE {a b : Int} (ha : i64ok a) (hb : i64ok b) : keyOf Tryz.prog 117 (kE a b) = some (.string (keyBytes [.int .i64 a, .int .i64 b])) :=
  keyOf_pair edgeArr Tryz.underlying3 typesSucc (wf_of ha) (wf_of hb)
theorem keyI {a : Int} (ha : i64ok a) : keyOf Tryz.prog 3 (vI a) = some (.int .i64 a) := keyOf_int_mk Tryz.underlying3 (wf_of ha)

/-- a function on edges, as one on values -/
def edgeV (f : Int → Int → Option Int) : Value → Option Value
  | .agg ⟨[.int .i64 a, .int .i64 b]⟩ => (f a b).map vI
  | _ => none
/-- a function on numbers, as one on values -/
def intV (f : Int → Option Value) : Value → Option Value
  | .int .i64 a => f a
  | _ => none

theorem edgeV_at (f : Int → Int → Option Int) (a b : Int) : edgeV f (kE a b) = (f a b).map vI := rfl
theorem intV_at (f : Int → Option Value) (a : Int) : intV f (vI a) = f a := rfl
theorem edgeV_ne {f : Int → Int → Option Int} {v : Value} (h : edgeV f v ≠ none) : ∃ x : Int × Int, v = kE x.1 x.2 := by
  unfold edgeV at h
  split at h
  · exact ⟨(_, _), rfl⟩
  · exact absurd rfl h
theorem intV_ne {f : Int → Option Value} {v : Value} (h : intV f v ≠ none) : ∃ x : Int, v = vI x := by
  unfold intV at h
  split at h
  · exact ⟨_, rfl⟩
  · exact absurd rfl h

/-- a function on edges, and one edge more, one less -/
def upE (f : Int → Int → Option Int) (a b c : Int) : Int → Int → Option Int := fun x y => if x = a ∧ y = b then some c else f x y
def delE (f : Int → Int → Option Int) (a b : Int) : Int → Int → Option Int := fun x y => if x = a ∧ y = b then none else f x y
def upI {α : Type} (f : Int → α) (a : Int) (v : α) : Int → α := fun x => if x = a then v else f x

theorem edgeV_up (f : Int → Int → Option Int) (a b c : Int) : updV (edgeV f) (kE a b) (vI c) = edgeV (upE f a b c) := by
  funext v
  by_cases h : ∃ x : Int × Int, v = kE x.1 x.2
  · obtain ⟨⟨x, y⟩, rfl⟩ := h
    dsimp only
    rw [edgeV_at]
    unfold upE updV
    simp only [kE_inj]
    split
    · rfl
    · exact edgeV_at f x y
  · have h1 : edgeV (upE f a b c) v = none := by
      apply Classical.byContradiction; intro hh; exact h (edgeV_ne hh)
    have h2 : edgeV f v = none := by
      apply Classical.byContradiction; intro hh; exact h (edgeV_ne hh)
    rw [h1, updV_other _ _ (fun e => h ⟨(a, b), e⟩), h2]

theorem edgeV_del (f : Int → Int → Option Int) (a b : Int) : delV (edgeV f) (kE a b) = edgeV (delE f a b) := by
  funext v
  by_cases h : ∃ x : Int × Int, v = kE x.1 x.2
  · obtain ⟨⟨x, y⟩, rfl⟩ := h
    dsimp only
    rw [edgeV_at]
    unfold delE delV
    simp only [kE_inj]
    split
    · rfl
    · exact edgeV_at f x y
  · have h1 : edgeV (delE f a b) v = none := by
      apply Classical.byContradiction; intro hh; exact h (edgeV_ne hh)
    have h2 : edgeV f v = none := by
      apply Classical.byContradiction; intro hh; exact h (edgeV_ne hh)
    rw [h1, delV_other _ (fun e => h ⟨(a, b), e⟩), h2]

theorem intV_up (f : Int → Option Value) (a : Int) (u : Value) : updV (intV f) (vI a) u = intV (upI f a (some u)) := by
  funext v
  by_cases h : ∃ x : Int, v = vI x
  · obtain ⟨x, rfl⟩ := h
    rw [intV_at]
    unfold upI updV
    simp only [vI_inj]
    split
    · rfl
    · exact intV_at f x
  · have h1 : intV (upI f a (some u)) v = none := by
      apply Classical.byContradiction; intro hh; exact h (intV_ne hh)
    have h2 : intV f v = none := by
      apply Classical.byContradiction; intro hh; exact h (intV_ne hh)
    rw [h1, updV_other _ _ (fun e => h ⟨a, e⟩), h2]

/-! ### the mesh -/
/-- A mesh, plainly. -/
structure MeshM where
  P : List Pt
  ap : Int → Int → Option Int
  sp : Int → List Int
  cnt : Int
  fx : Int → Int → Option Int

def cellsP (l : List Pt) : List Value := l.flatMap fun p => [.float .f64 p.1, .float .f64 p.2]
theorem cellsP_len (l : List Pt) : (cellsP l).length = l.length * 2 := by
  induction l with
  | nil => rfl
  | cons p r ih => simp only [cellsP, List.flatMap_cons, List.length_append, List.length_cons, List.length_nil] at *; omega
theorem cellsP_at (l : List Pt) : ∀ i, i < l.length → (cellsP l)[i * 2]? = some (.float .f64 (l.getD i (0, 0)).1) ∧ (cellsP l)[i * 2 + 1]? = some (.float .f64 (l.getD i (0, 0)).2) := by
  induction l with
  | nil => intro i h; simp at h
  | cons p r ih =>
    intro i h
    cases i with
    | zero => exact ⟨rfl, rfl⟩
    | succ i =>
      have := ih i (by simp at h; omega)
      have e1 : (i + 1) * 2 = i * 2 + 2 := by omega
      rw [e1]
      exact this

/-- The rows of a mesh's spokes. -/
structure SpokeRows (w : World) (sv : Int → Option Value) (sp : Int → List Int) (F : Nat → Prop) (avoid : Nat → Prop) : Prop where
  none : ∀ a, sv a = none → sp a = []
  own : ∀ a v, sv a = some v → w.ownsInts 0 3 .i64 v (sp a)
  dis : ∀ a a' v v', a ≠ a' → sv a = some v → sv a' = some v' → v.ownBlock = .none ∨ v.ownBlock ≠ v'.ownBlock
  inF : ∀ a v g, sv a = some v → v.ownBlock = some g → F g ∧ ¬avoid g

/-- Block mb of w holds a mesh; all that it leads to lies in F. -/
structure MeshParts (w : World) (mb ba bs bf n : Nat) (pv : Value) (sv : Int → Option Value) (M : MeshM) (F : Nat → Prop) : Prop where
  c0 : w.cell? ⟨mb, 0, none⟩ = some pv
  c1 : w.cell? ⟨mb, 1, none⟩ = some (.map (some ba))
  c2 : w.cell? ⟨mb, 2, none⟩ = some (.map (some bs))
  c3 : w.cell? ⟨mb, 3, none⟩ = some (.int .i64 M.cnt)
  c4 : w.cell? ⟨mb, 4, none⟩ = some (.map (some bf))
  fz : ∀ i, w.frozen? ⟨mb, i, none⟩ = false
  pts : w.ownsRow 0 52 2 pv M.P.length (cellsP M.P)
  apm : FMap Tryz.prog w 117 ba n (edgeV M.ap)
  spm : FMap Tryz.prog w 3 bs n (intV sv)
  fxm : FMap Tryz.prog w 117 bf n (edgeV M.fx)
  rows : SpokeRows w sv M.sp F (fun g => g = mb ∨ pv.ownBlock = some g)
  nab : ba ≠ bs
  naf : ba ≠ bf
  nsf : bs ≠ bf
  npm : pv.ownBlock ≠ some mb
  fmb : F mb
  fba : F ba
  fbs : F bs
  fbf : F bf
  fpv : ∀ g, pv.ownBlock = some g → F g
  flt : ∀ g, F g → g < w.heap.size
  spl : ∀ a, (M.sp a).length ≤ n
  cb : -(n : Int) ≤ M.cnt ∧ M.cnt ≤ n

def MeshAt (w : World) (mb n : Nat) (M : MeshM) (F : Nat → Prop) : Prop := ∃ ba bs bf pv sv, MeshParts w mb ba bs bf n pv sv M F

theorem ownsRow_same {w w' : World} {base e size n : Nat} {v : Value} {xs : List Value} (h : w.ownsRow base e size v n xs) (hb : ∀ g, v.ownBlock = some g → w'.heap[g]? = w.heap[g]?) : w'.ownsRow base e size v n xs := by
  refine ⟨h.1, ?_⟩
  rcases h.2 with h1 | ⟨g, cap, cur, rfl, h2, h3, h4⟩
  · exact .inl h1
  · exact .inr ⟨g, cap, cur, rfl, h2, (hb g rfl).trans h3, h4⟩

theorem SpokeRows.same {w w' : World} {sv : Int → Option Value} {sp : Int → List Int} {F av : Nat → Prop} (h : SpokeRows w sv sp F av) (hb : ∀ g, F g → ¬av g → w'.heap[g]? = w.heap[g]?) : SpokeRows w' sv sp F av :=
  ⟨h.none, fun a v hv => ⟨ownsRow_same (h.own a v hv).1 fun g hg => hb g (h.inF a v g hv hg).1 (h.inF a v g hv hg).2, (h.own a v hv).2⟩, h.dis, h.inF⟩

theorem MeshParts.same {w w' : World} {mb ba bs bf n : Nat} {pv : Value} {sv : Int → Option Value} {M : MeshM} {F : Nat → Prop} (h : MeshParts w mb ba bs bf n pv sv M F) (hsz : w.heap.size ≤ w'.heap.size) (hb : ∀ g, F g → w'.heap[g]? = w.heap[g]?) : MeshParts w' mb ba bs bf n pv sv M F := by
  have hc : ∀ i, w'.cell? ⟨mb, i, none⟩ = w.cell? ⟨mb, i, none⟩ := fun i => World.cell?_of_block (hb mb h.fmb)
  exact ⟨(hc 0).trans h.c0, (hc 1).trans h.c1, (hc 2).trans h.c2, (hc 3).trans h.c3, (hc 4).trans h.c4, fun i => (World.frozen?_of_block (hb mb h.fmb)).trans (h.fz i),
    ownsRow_same h.pts fun g hg => hb g (h.fpv g hg), h.apm.same (hb ba h.fba), h.spm.same (hb bs h.fbs), h.fxm.same (hb bf h.fbf), h.rows.same fun g hg _ => hb g hg, h.nab, h.naf, h.nsf, h.npm, h.fmb, h.fba, h.fbs, h.fbf, h.fpv, fun g hg => Nat.lt_of_lt_of_le (h.flt g hg) hsz, h.spl, h.cb⟩

theorem MeshParts.below {w w' : World} {mb ba bs bf n : Nat} {pv : Value} {sv : Int → Option Value} {M : MeshM} {F : Nat → Prop} (h : MeshParts w mb ba bs bf n pv sv M F) (hb : Below w.heap.size w w') : MeshParts w' mb ba bs bf n pv sv M F :=
  h.same hb.size fun g hg => hb.block g (h.flt g hg)

theorem MeshParts.wider {w : World} {mb ba bs bf n : Nat} {pv : Value} {sv : Int → Option Value} {M : MeshM} {F G : Nat → Prop} (h : MeshParts w mb ba bs bf n pv sv M F) (hFG : ∀ g, F g → G g) (hG : ∀ g, G g → g < w.heap.size) : MeshParts w mb ba bs bf n pv sv M G :=
  { h with rows := ⟨h.rows.none, h.rows.own, h.rows.dis, fun a v g h1 h2 => ⟨hFG g (h.rows.inF a v g h1 h2).1, (h.rows.inF a v g h1 h2).2⟩⟩, fmb := hFG _ h.fmb, fba := hFG _ h.fba, fbs := hFG _ h.fbs, fbf := hFG _ h.fbf, fpv := fun g hg => hFG g (h.fpv g hg), flt := hG }

theorem MeshParts.mono {w : World} {mb ba bs bf n n' : Nat} {pv : Value} {sv : Int → Option Value} {M : MeshM} {F : Nat → Prop} (h : MeshParts w mb ba bs bf n pv sv M F) (hn : n ≤ n') : MeshParts w mb ba bs bf n' pv sv M F :=
  { h with apm := h.apm.mono hn, spm := h.spm.mono hn, fxm := h.fxm.mono hn, spl := fun a => Nat.le_trans (h.spl a) hn, cb := by have := h.cb; omega }

/-- the points, as the walk reads them -/
theorem MeshParts.ptcells {w : World} {mb ba bs bf n : Nat} {pv : Value} {sv : Int → Option Value} {M : MeshM} {F : Nat → Prop} (h : MeshParts w mb ba bs bf n pv sv M F) :
    ∃ ad cap, pv = .slice ad M.P.length cap ∧ PCells w ad M.P := by
  rcases h.pts.2 with ⟨h1, h2⟩ | ⟨g, cap, cur, h1, h2, h3, h4, h5, h6, h7⟩
  · exact ⟨none, 0, by rw [h2]; exact h1, fun hl => absurd h2 (by omega)⟩
  · refine ⟨some ⟨g, 0, none⟩, cap, h1, fun _ => ⟨g, 0, rfl, (Array.getElem?_eq_some_iff.1 h3).1, fun i hi => ?_⟩⟩
    have hp := h.pts
    rw [h1] at hp
    have := cellsP_at M.P i hi
    refine ⟨?_, ?_⟩
    · rw [hp.cellAt _ (by omega)]; simpa using this.1
    · rw [hp.cellAt _ (by omega)]; simpa using this.2

/-- Nothing turns but what lies in G, and new blocks. -/
structure Stay (G : Nat → Prop) (w w' : World) : Prop where
  os : w'.os = w.os
  tape : w'.tape = w.tape
  output : w'.output = w.output
  size : w.heap.size ≤ w'.heap.size
  block : ∀ i, i < w.heap.size → ¬G i → w'.heap[i]? = w.heap[i]?

theorem Stay.refl (G : Nat → Prop) (w : World) : Stay G w w := ⟨rfl, rfl, rfl, Nat.le_refl _, fun _ _ _ => rfl⟩
theorem Stay.of_below {G : Nat → Prop} {w w' : World} (h : Below w.heap.size w w') : Stay G w w' := ⟨h.os, h.tape, h.output, h.size, fun i hi _ => h.block i hi⟩
theorem Stay.of_grown {G : Nat → Prop} {w w' : World} {row : Option Nat} (h : w.grownBy w' row) (hr : ∀ j, row = some j → G j) : Stay G w w' :=
  ⟨h.os, h.tape, h.output, h.size, fun i hi hG => h.block i hi (fun e => hG (hr i e.symm))⟩
theorem Stay.trans {G : Nat → Prop} {a b c : World} (h : Stay G a b) (k : Stay (fun i => G i ∨ a.heap.size ≤ i) b c) : Stay G a c :=
  ⟨k.os.trans h.os, k.tape.trans h.tape, k.output.trans h.output, Nat.le_trans h.size k.size, fun i hi hG => (k.block i (Nat.lt_of_lt_of_le hi h.size) (fun e => e.elim hG (fun e => by omega))).trans (h.block i hi hG)⟩
theorem Stay.mono {G G' : Nat → Prop} {w w' : World} (h : Stay G w w') (hg : ∀ i, G i → G' i) : Stay G' w w' := ⟨h.os, h.tape, h.output, h.size, fun i hi hG => h.block i hi (fun e => hG (hg i e))⟩

end Go.Proofs.YtdoaniccefdkaaaGreatDoor

/- Rows written over in place: what a slice owns behind it. -/
namespace Go.Proofs.YtdoaniccefdkaaaGreatDoor
open Go.RowKit Go.Maps Go.WideMaps Go.Sort

theorem heap_mapBlock_other (w : World) (blk : Nat) (f : Array Value → Array Value) {i : Nat} (h : i ≠ blk) : (mapBlock w blk f).heap[i]? = w.heap[i]? := by
  unfold mapBlock; simp [Array.getElem?_modify, Ne.symm h]
theorem heap_mapBlock_same {w : World} {blk : Nat} {f : Array Value → Array Value} {c : Array Value} {e : TypeId} {fr : Nat × Nat} (h : w.heap[blk]? = some (.cells c e fr)) : (mapBlock w blk f).heap[blk]? = some (.cells (f c) e fr) := by
  unfold mapBlock; simp [Array.getElem?_modify, h, onCells]

theorem putCells_enc {α : Type} [Inhabited α] (enc : α → Value) (off : Nat) (d : Array α) : putCells enc off d = putCells id off (d.map enc) := by
  funext c
  unfold putCells
  apply Array.ext_getElem?
  intro k
  simp only [Array.getElem?_mapIdx, Array.size_map]
  cases c[k]? with
  | none => rfl
  | some x =>
    simp only [Option.map_some]
    split
    · rename_i h
      have h1 : k - off < d.size := by omega
      rw [getElem!_pos d _ h1, getElem!_pos (d.map enc) _ (by simpa using h1)]
      simp
    · rfl

theorem putRow_enc {α : Type} [Inhabited α] (enc : α → Value) (w : World) (blk off : Nat) (d : Array α) : putRow enc w blk off d = putRow id w blk off (d.map enc) := by
  unfold putRow; rw [putCells_enc]

theorem put_grown (w : World) (q blk off : Nat) (d : Array Value) : w.grownBy (putRow id (Sort.ahead w q) blk off d) (some blk) := by
  refine ⟨rfl, rfl, rfl, by rw [size_putRow]; exact Nat.le_refl _, fun k _ hk => ?_⟩
  unfold putRow
  rw [heap_mapBlock_other _ _ _ (fun e => hk (by rw [e]))]
  rfl

theorem putCells_take (d c : Array Value) (h : d.size ≤ c.size) (k : Nat) (hk : k ≤ d.size) : (putCells id 0 d c).toList.take k = d.toList.take k := by
  apply List.ext_getElem?
  intro i
  rw [List.getElem?_take, List.getElem?_take]
  split
  · rename_i hi
    rw [Array.getElem?_toList, Array.getElem?_toList]
    unfold putCells
    rw [Array.getElem?_mapIdx, Array.getElem?_eq_getElem (show i < c.size by omega), Option.map_some, if_pos (by omega), Nat.sub_zero, Array.getElem?_eq_getElem (show i < d.size by omega), getElem!_pos d i (by omega)]
    rfl
  · rfl

theorem owns_put {w : World} {e size g n n' cap base : Nat} {xs : List Value} (h : w.ownsRow base e size (.slice (some ⟨g, 0, none⟩) n cap) n xs) (q : Nat) (d : Array Value) (h1 : n' * size ≤ d.size) (h2 : d.size ≤ n * size) (h3 : n' ≤ n) :
    (putRow id (Sort.ahead w q) g 0 d).ownsRow base e size (.slice (some ⟨g, 0, none⟩) n' cap) n' (d.toList.take (n' * size)) := by
  rcases h.2 with ⟨hv, _⟩ | ⟨g', cap', cur, hv, hb, hh, hn, hm, hs, ht⟩
  · cases hv
  · cases hv
    have hc : n * size ≤ cap * size := Nat.mul_le_mul_right _ hn
    refine ⟨by rw [List.length_take, Array.length_toList]; omega, .inr ⟨g, cap, putCells id 0 d cur, rfl, hb, heap_mapBlock_same hh, by omega, hm, ?_, ?_⟩⟩
    · unfold putCells; rw [Array.size_mapIdx]; exact hs
    · exact putCells_take d cur (by omega) _ h1

theorem owns_frozen {w : World} {base e size g n cap : Nat} {xs : List Value} (h : w.ownsRow base e size (.slice (some ⟨g, 0, none⟩) n cap) n xs) (i : Nat) : w.frozen? ⟨g, i, none⟩ = false := by
  rcases h.2 with ⟨hv, _⟩ | ⟨g', cap', cur, hv, hb, hh, _⟩
  · cases hv
  · cases hv
    unfold World.frozen?
    rw [hh]; simp

theorem owns_holds {α : Type} [Inhabited α] {enc : α → Value} {w : World} {base e g n cap : Nat} {l : List α} (h : w.ownsRow base e 1 (.slice (some ⟨g, 0, none⟩) n cap) n (l.map enc)) : Holds enc w g 0 l.toArray := by
  intro j hj
  have hj' : j < l.length := by simpa using hj
  have hl := h.1
  refine ⟨?_, owns_frozen h _⟩
  have e1 := h.cellAt j (by rw [List.length_map] at hl; omega)
  rw [Nat.zero_add]
  rw [e1, List.getElem?_map, List.getElem?_eq_getElem hj']
  simp [hj']

end Go.Proofs.YtdoaniccefdkaaaGreatDoor

/- Plain lists: a sorted list is told by its members; the pairs below n in their order; a mesh's triangles, edges, border edges as lists. -/
namespace Go.Proofs.YtdoaniccefdkaaaGreatDoor

theorem pw_unique {α : Type} {lt : α → α → Prop} (irr : ∀ x, ¬lt x x) (tr : ∀ x y z, lt x y → lt y z → lt x z) :
    ∀ (l1 l2 : List α), l1.Pairwise lt → l2.Pairwise lt → (∀ x, x ∈ l1 ↔ x ∈ l2) → l1 = l2
  | [], [], _, _, _ => rfl
  | [], y :: r, _, _, h => absurd ((h y).2 (List.mem_cons_self ..)) (by simp)
  | x :: r, [], _, _, h => absurd ((h x).1 (List.mem_cons_self ..)) (by simp)
  | x :: r, y :: s, h1, h2, h => by
    have hx := List.pairwise_cons.1 h1
    have hy := List.pairwise_cons.1 h2
    have e : x = y := by
      rcases List.mem_cons.1 ((h x).1 (List.mem_cons_self ..)) with e | e
      · exact e
      · rcases List.mem_cons.1 ((h y).2 (List.mem_cons_self ..)) with e' | e'
        · exact e'.symm
        · exact absurd (tr _ _ _ (hx.1 y e') (hy.1 x e)) (irr x)
    subst e
    have hr : r = s := by
      refine pw_unique irr tr r s hx.2 hy.2 fun z => ⟨fun hz => ?_, fun hz => ?_⟩
      · rcases List.mem_cons.1 ((h z).1 (List.mem_cons_of_mem _ hz)) with e | e
        · exact absurd (hx.1 z hz) (e ▸ irr z)
        · exact e
      · rcases List.mem_cons.1 ((h z).2 (List.mem_cons_of_mem _ hz)) with e | e
        · exact absurd (hy.1 z hz) (e ▸ irr z)
        · exact e
    rw [hr]

/-- told apart, and none ahead of an earlier one: each behind the earlier ones -/
theorem pw_strict {α : Type} {lt : α → α → Prop} (tot : ∀ x y, ¬lt x y → ¬lt y x → x = y) : ∀ (l : List α), l.Nodup → l.Pairwise (fun x y => ¬lt y x) → l.Pairwise lt
  | [], _, _ => List.Pairwise.nil
  | x :: r, hn, hp => by
    have h1 := List.pairwise_cons.1 hn
    have h2 := List.pairwise_cons.1 hp
    refine List.pairwise_cons.2 ⟨fun y hy => ?_, pw_strict tot r h1.2 h2.2⟩
    apply Classical.byContradiction; intro hh
    exact h1.1 y hy (tot x y hh (h2.1 y hy))

/-! ### pairs -/
def ltP (x y : Int × Int) : Prop := x.1 < y.1 ∨ (x.1 = y.1 ∧ x.2 < y.2)
theorem ltP_irr (x : Int × Int) : ¬ltP x x := by unfold ltP; omega
theorem ltP_trans (x y z : Int × Int) (h1 : ltP x y) (h2 : ltP y z) : ltP x z := by unfold ltP at *; omega
theorem ltP_tot (x y : Int × Int) (h1 : ¬ltP x y) (h2 : ¬ltP y x) : x = y := by
  unfold ltP at *
  obtain ⟨a, b⟩ := x; obtain ⟨c, d⟩ := y
  simp only [Prod.mk.injEq]
  dsimp only at *
  omega

def idxL (n : Nat) : List (Int × Int) := (List.range n).flatMap fun (a : Nat) => (List.range n).map fun (b : Nat) => ((a : Int), (b : Int))
theorem mem_idxL {n : Nat} {x : Int × Int} : x ∈ idxL n ↔ (0 ≤ x.1 ∧ x.1 < n) ∧ (0 ≤ x.2 ∧ x.2 < n) := by
  unfold idxL
  simp only [List.mem_flatMap, List.mem_map, List.mem_range]
  constructor
  · rintro ⟨a, ha, b, hb, rfl⟩
    dsimp only; omega
  · rintro ⟨⟨h1, h2⟩, h3, h4⟩
    refine ⟨x.1.toNat, by omega, x.2.toNat, by omega, ?_⟩
    obtain ⟨a, b⟩ := x
    simp only [Prod.mk.injEq]
    dsimp only at *
    omega
theorem idxL_sorted (n : Nat) : (idxL n).Pairwise ltP := by
  unfold idxL
  rw [List.pairwise_flatMap]
  constructor
  · intro a _
    rw [List.pairwise_map]
    refine List.Pairwise.imp ?_ (List.pairwise_lt_range (n := n))
    intro x y h
    unfold ltP; dsimp only; omega
  · refine List.Pairwise.imp ?_ (List.pairwise_lt_range (n := n))
    intro x y h u hu v hv
    obtain ⟨b, _, rfl⟩ := List.mem_map.1 hu
    obtain ⟨d, _, rfl⟩ := List.mem_map.1 hv
    unfold ltP; dsimp only; omega
theorem ltP_nodup {l : List (Int × Int)} (h : l.Pairwise ltP) : l.Nodup := by
  refine List.Pairwise.imp ?_ h
  rintro a b hlt rfl
  exact ltP_irr _ hlt

/-! ### triangles in their order -/
abbrev Tri3 := Int × Int × Int
def ltT (x y : Tri3) : Prop := x.1 < y.1 ∨ (x.1 = y.1 ∧ (x.2.1 < y.2.1 ∨ (x.2.1 = y.2.1 ∧ x.2.2 < y.2.2)))
theorem ltT_irr (x : Tri3) : ¬ltT x x := by unfold ltT; omega
theorem ltT_trans (x y z : Tri3) (h1 : ltT x y) (h2 : ltT y z) : ltT x z := by unfold ltT at *; omega
theorem ltT_tot (x y : Tri3) (h1 : ¬ltT x y) (h2 : ¬ltT y x) : x = y := by
  unfold ltT at *
  obtain ⟨a, b, c⟩ := x; obtain ⟨d, e, f⟩ := y
  simp only [Prod.mk.injEq]
  dsimp only at *
  omega

/-- does an edge lead a triangle in its own form? -/
def leadB (ap : Int → Int → Option Int) (x : Int × Int) : Bool :=
  match ap x.1 x.2 with
  | some c => decide (x.1 < x.2) && decide (x.1 < c)
  | none => false
def triOf (ap : Int → Int → Option Int) (x : Int × Int) : Tri3 := (x.1, x.2, (ap x.1 x.2).getD 0)
def trisL (ap : Int → Int → Option Int) (n : Nat) : List Tri3 := ((idxL n).filter (leadB ap)).map (triOf ap)
def inB (ap : Int → Int → Option Int) (x : Int × Int) : Bool := (ap x.1 x.2).isSome
def dirL (ap : Int → Int → Option Int) (n : Nat) : List (Int × Int) := (idxL n).filter (inB ap)
def bordB (ap : Int → Int → Option Int) (x : Int × Int) : Bool := inB ap x && !inB ap (x.2, x.1)
def bordL (ap : Int → Int → Option Int) (n : Nat) : List (Int × Int) := (idxL n).filter (bordB ap)
def edgeB (ap : Int → Int → Option Int) (x : Int × Int) : Bool := decide (x.1 < x.2) && (inB ap x || inB ap (x.2, x.1))
def edgeL (ap : Int → Int → Option Int) (n : Nat) : List (Int × Int) := (idxL n).filter (edgeB ap)

theorem bordL_sorted (ap : Int → Int → Option Int) (n : Nat) : (bordL ap n).Pairwise ltP := (idxL_sorted n).filter _
theorem edgeL_sorted (ap : Int → Int → Option Int) (n : Nat) : (edgeL ap n).Pairwise ltP := (idxL_sorted n).filter _
theorem dirL_sorted (ap : Int → Int → Option Int) (n : Nat) : (dirL ap n).Pairwise ltP := (idxL_sorted n).filter _
theorem trisL_sorted (ap : Int → Int → Option Int) (n : Nat) : (trisL ap n).Pairwise ltT := by
  unfold trisL
  rw [List.pairwise_map]
  refine List.Pairwise.imp ?_ ((idxL_sorted n).filter (leadB ap))
  intro x y h
  unfold ltP at h; unfold ltT triOf; dsimp only; omega

/-- Every edge that there is lies below n. -/
def Within (ap : Int → Int → Option Int) (n : Nat) : Prop := ∀ a b, ap a b ≠ none → (0 ≤ a ∧ a < n) ∧ (0 ≤ b ∧ b < n)

theorem mem_bordL {ap : Int → Int → Option Int} {n : Nat} (h : Within ap n) (x : Int × Int) : x ∈ bordL ap n ↔ bordB ap x = true := by
  unfold bordL
  rw [List.mem_filter, mem_idxL]
  refine ⟨fun e => e.2, fun e => ⟨h x.1 x.2 ?_, e⟩⟩
  intro en
  unfold bordB inB at e
  rw [en] at e; simp at e
theorem mem_dirL {ap : Int → Int → Option Int} {n : Nat} (h : Within ap n) (x : Int × Int) : x ∈ dirL ap n ↔ inB ap x = true := by
  unfold dirL
  rw [List.mem_filter, mem_idxL]
  refine ⟨fun e => e.2, fun e => ⟨h x.1 x.2 ?_, e⟩⟩
  intro en
  unfold inB at e
  rw [en] at e; simp at e
theorem mem_edgeL {ap : Int → Int → Option Int} {n : Nat} (h : Within ap n) (x : Int × Int) : x ∈ edgeL ap n ↔ edgeB ap x = true := by
  unfold edgeL
  rw [List.mem_filter, mem_idxL]
  refine ⟨fun e => e.2, fun e => ⟨?_, e⟩⟩
  unfold edgeB inB at e
  simp only [Bool.and_eq_true, Bool.or_eq_true, decide_eq_true_eq] at e
  rcases e.2 with e1 | e1
  · exact h x.1 x.2 (fun en => by rw [en] at e1; simp at e1)
  · have := h x.2 x.1 (fun en => by rw [en] at e1; simp at e1)
    exact ⟨this.2, this.1⟩
theorem mem_trisL {ap : Int → Int → Option Int} {n : Nat} (h : Within ap n) (x : Tri3) : x ∈ trisL ap n ↔ ap x.1 x.2.1 = some x.2.2 ∧ x.1 < x.2.1 ∧ x.1 < x.2.2 := by
  unfold trisL
  simp only [List.mem_map, List.mem_filter, mem_idxL]
  constructor
  · rintro ⟨y, ⟨_, hy⟩, rfl⟩
    unfold leadB at hy
    unfold triOf
    dsimp only
    cases e : ap y.1 y.2 with
    | none => rw [e] at hy; simp at hy
    | some c => rw [e] at hy; simp at hy; exact ⟨rfl, hy.1, hy.2⟩
  · rintro ⟨h1, h2, h3⟩
    refine ⟨(x.1, x.2.1), ⟨h _ _ (by rw [h1]; simp), ?_⟩, ?_⟩
    · unfold leadB; dsimp only; rw [h1]; simp; exact ⟨h2, h3⟩
    · unfold triOf; dsimp only; rw [h1]; rfl

end Go.Proofs.YtdoaniccefdkaaaGreatDoor
