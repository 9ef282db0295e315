/- trivetref04: Coordinate, May, Less. -/
import Derived.Test.YtdoaniccefdkaaaGreatDoorZJ
import Derived.Test.YtdoaniccefdkaaaGreatDoorZK
set_option linter.all false
namespace Go.Proofs.YtdoaniccefdkaaaGreatDoor
open Go.RowKit Tvf Go.Maps Go.WideMaps

set_option maxRecDepth 100000 in
set_option maxHeartbeats 4000000 in
theorem coord04_main {x : Nat} {w : World} (hx : fin x) (h0 : fval x ≠ 0) :
    Calls Tryz.prog 278 #[.float .f64 x] w fun r w' => r = .returned (.bool (decide ((fval x).natAbs ≤ 2 ^ (unitE + 100)) && decide ((fval x).natAbs % 2 ^ gridE = 0))) ∧ Below w.heap.size w w' := by
  have hz : fin 0 := by unfold fin; omega
  have hz0 : fval 0 = 0 := by decide
  have hsub := fsub_val hx hx (by rw [Int.sub_self]; exact inReach_le (k := 1) (by decide) (by rw [top_eq]; decide))
  have e1 : fne x x = false := by rw [fne_val hx hx]; simp
  have e2 : fne (fsub x x) 0 = false := by rw [fne_val hsub.1 hz, hsub.2, hz0, Int.sub_self, rn_zero]; simp
  have e3 : feq x 0 = false := by rw [feq_val hx hz, hz0]; simpa using h0
  obtain ⟨k, hk⟩ : ∃ k, Hid (fval x * 2 ^ 3726 = k) := ⟨fval x * 2 ^ 3726, rfl⟩
  have HOF : Hid (Calls Tryz.prog 192 #[.float .f64 x] w (NumR 180 k w)) := by have := ofK_any (w := w) hx; rw [hk.out] at this; exact numR this
  have HAB : Hid (∀ W v, NumK W v 180 k → Calls Tryz.prog 194 #[v] W (NumR 180 (k.natAbs : Int) W)) := fun W v h => numR (by refine (absK h).mono ?_; rintro r w' ⟨z, rfl, h1, h2⟩; exact ⟨z, rfl, h1.out, h2.out⟩)
  obtain ⟨P, hP⟩ : ∃ P : Int, Hid ((1 : Int) * 2 ^ (4900 : Nat) = P) := ⟨1 * 2 ^ (4900 : Nat), rfl⟩
  have HPW : Hid (∀ W, Calls Tryz.prog 195 #[.int .u64 1, .int .i64 100] W (NumR 180 P W)) := fun W => numR (by
    have := power_walk (n0 := 1) (k0 := 100) (e := 180) (w := W) (by omega) (by omega) (by omega) (by omega)
    rw [show ((100 : Int) + 4800).toNat = 4900 from rfl] at this
    rw [← hP.out]
    exact this)
  have HCM : Hid (∀ W u v, NumK W u 180 (k.natAbs : Int) → NumK W v 180 P → Calls Tryz.prog 193 #[u, v] W fun r w' => r = .returned (.int .i64 (sgnI ((k.natAbs : Int) - P))) ∧ Hid (Below W.heap.size W w')) := fun W u v hu hv => cmpK hu hv (by omega)
  have hk0 : k ≠ 0 := by
    rw [← hk.out]
    intro e
    rcases Int.mul_eq_zero.1 e with e | e
    · exact h0 e
    · exact absurd e (Int.ne_of_gt (Int.pow_pos (by omega)))
  have HLO : Hid (∀ W v, NumK W v 180 k → Calls Tryz.prog 196 #[v] W fun r w' => ∃ n : Int, r = .returned (.int .i64 n) ∧ decide (-100 ≤ n) = decide ((fval x).natAbs % 2 ^ gridE = 0) ∧ Hid (Below W.heap.size W w')) := fun W v h => by
    refine (lowK h hk0 (by omega)).mono ?_
    rintro r w' ⟨n, rfl, hn, hb⟩
    obtain ⟨h1, h2, p, h3, h4⟩ := hn.out
    refine ⟨n, rfl, low_100 h3 ?_ h1, hb⟩
    rw [← h4, ← hk.out, Int.natAbs_mul, natAbs_two_pow]
  have HLE : Hid (sgnI ((k.natAbs : Int) - P) ≤ 0 ↔ (fval x).natAbs ≤ 2 ^ (unitE + 100)) := by
    have hu := unitE_eq
    have e1 : k.natAbs = (fval x).natAbs * 2 ^ 3726 := by rw [← hk.out, Int.natAbs_mul, natAbs_two_pow]
    have e2 : P = ((2 ^ (unitE + 100) * 2 ^ 3726 : Nat) : Int) := hP.out.symm.trans (one_pow_split (unitE + 100) 3726 4900 (by rw [hu]))
    have h1 : sgnI ((k.natAbs : Int) - P) ≤ 0 ↔ (k.natAbs : Int) ≤ P := by unfold sgnI; split <;> (try split) <;> omega
    unfold Hid
    rw [h1, e1, e2, Int.ofNat_le]
    exact Nat.mul_le_mul_right_iff (Nat.two_pow_pos 3726)
  clear h0 hsub hz0 hk0
  generalize decide ((fval x).natAbs % 2 ^ gridE = 0) = G at *
  generalize sgnI ((k.natAbs : Int) - P) = C at *
  have hbw : Hid (∀ W o, Below W.heap.size W (World.alloc W o)) := fun W o => (Below.refl _ _).alloc (Nat.le_refl _) _
  by_cases hC : C ≤ 0
  · rw [decide_eq_true (HLE.out.1 hC), Bool.true_and]
    go_enter Tryz.func278, Tryz.ntmps278
    go_wp2_with (first
      | (go_at_call 192; (with_reducible refine HOF.out.mono ?_); rintro r w1 ⟨ee, ad, l, c, rfl, HZ1, HB1⟩; have HN1 := Lib.hid (HZ1.out.below (hbw.out w1 (.cells #[.int .i64 (sgnI k), .slice ad l c, .int .i64 ee] 191))); have HX1 := Lib.hid (Box3.new w1 (.int .i64 (sgnI k)) (.slice ad l c) (.int .i64 ee) 191); have n1 := HX1.out.c; obtain ⟨n10, n11, n12⟩ := n1)
      | (go_at_call 194; (with_reducible refine (HAB.out _ _ HN1.out).mono ?_); rintro r w2 ⟨ee2, ad2, l2, c2, rfl, HZ2, HB2⟩)
      | (go_at_call 195; (with_reducible refine (HPW.out _).mono ?_); rintro r w3 ⟨ee3, ad3, l3, c3, rfl, HZ3, HB3⟩)
      | (go_at_call 193; (with_reducible refine (HCM.out _ _ _ (NumR.keep HZ2.out HB3) HZ3.out).mono ?_); rintro r w4 ⟨rfl, HB4⟩; have HX4 := Lib.hid (((HX1.out.below HB2.out).below HB3.out).below HB4.out); obtain ⟨n40, n41, n42⟩ := HX4.out.c; have HN4 := Lib.hid (((HN1.out.below HB2.out).below HB3.out).below HB4.out))
      | (go_at_call 196; (with_reducible refine (HLO.out _ _ HN4.out).mono ?_); rintro r w5 ⟨n, rfl, hn, HB5⟩))
    go_ret
    exact ⟨rfl, bseq (bseq (bseq (bseq (bseq HB1.out (hbw.out _ _)) HB2.out) HB3.out) HB4.out) HB5.out⟩
  · rw [decide_eq_false (fun h => hC (HLE.out.2 h)), Bool.false_and]
    go_enter Tryz.func278, Tryz.ntmps278
    go_wp2_with (first
      | (go_at_call 192; (with_reducible refine HOF.out.mono ?_); rintro r w1 ⟨ee, ad, l, c, rfl, HZ1, HB1⟩; have HN1 := Lib.hid (HZ1.out.below (hbw.out w1 (.cells #[.int .i64 (sgnI k), .slice ad l c, .int .i64 ee] 191))); have HX1 := Lib.hid (Box3.new w1 (.int .i64 (sgnI k)) (.slice ad l c) (.int .i64 ee) 191); have n1 := HX1.out.c; obtain ⟨n10, n11, n12⟩ := n1)
      | (go_at_call 194; (with_reducible refine (HAB.out _ _ HN1.out).mono ?_); rintro r w2 ⟨ee2, ad2, l2, c2, rfl, HZ2, HB2⟩)
      | (go_at_call 195; (with_reducible refine (HPW.out _).mono ?_); rintro r w3 ⟨ee3, ad3, l3, c3, rfl, HZ3, HB3⟩)
      | (go_at_call 193; (with_reducible refine (HCM.out _ _ _ (NumR.keep HZ2.out HB3) HZ3.out).mono ?_); rintro r w4 ⟨rfl, HB4⟩))
    go_ret
    exact ⟨rfl, bseq (bseq (bseq (bseq HB1.out (hbw.out _ _)) HB2.out) HB3.out) HB4.out⟩

set_option maxRecDepth 100000 in
set_option maxHeartbeats 4000000 in
theorem coord04_zero {x : Nat} {w : World} (hx : fin x) (h0 : fval x = 0) :
    Calls Tryz.prog 278 #[.float .f64 x] w fun r w' => r = .returned (.bool true) ∧ Below w.heap.size w w' := by
  have hz : fin 0 := by unfold fin; omega
  have hz0 : fval 0 = 0 := by decide
  have hsub := fsub_val hx hx (by rw [Int.sub_self]; exact inReach_le (k := 1) (by decide) (by rw [top_eq]; decide))
  have e1 : fne x x = false := by rw [fne_val hx hx]; simp
  have e2 : fne (fsub x x) 0 = false := by rw [fne_val hsub.1 hz, hsub.2, hz0, Int.sub_self, rn_zero]; simp
  have e3 : feq x 0 = true := by rw [feq_val hx hz, hz0]; simpa using h0
  clear h0 hsub hz0
  go_enter Tryz.func278, Tryz.ntmps278
  go_wp2
  go_ret
  exact ⟨rfl, Below.refl _ _⟩

set_option maxRecDepth 100000 in
set_option maxHeartbeats 4000000 in
theorem coord04_nan {x : Nat} {w : World} (hr : ∃ a b, D.read x = .nan a b) :
    Calls Tryz.prog 278 #[.float .f64 x] w fun r w' => r = .returned (.bool false) ∧ Below w.heap.size w w' := by
  have e1 : fne x x = true := nan_fne hr
  clear hr
  go_enter Tryz.func278, Tryz.ntmps278
  go_wp2
  go_ret
  exact ⟨rfl, Below.refl _ _⟩

set_option maxRecDepth 100000 in
set_option maxHeartbeats 4000000 in
theorem coord04_inf {x : Nat} {s : Bool} {w : World} (hr : D.read x = .infinity s) :
    Calls Tryz.prog 278 #[.float .f64 x] w fun r w' => r = .returned (.bool false) ∧ Below w.heap.size w w' := by
  have e1 : fne x x = false := inf_feq hr
  have e2 : ∀ w, fne (nanW w x) 0 = true := fun w => nan_fne (nanW_read w x)
  have e4 := fun w => run_sub_inf 50 (inf_sub hr) w
  clear hr
  go_enter Tryz.func278, Tryz.ntmps278
  go_wp2
  go_ret
  exact ⟨rfl, (Below.refl _ _).drew⟩

/-- may a coordinate be, by the document -/
theorem coord04 {x : Nat} {w : World} (h64 : x < 2 ^ 64) :
    Calls Tryz.prog 278 #[.float .f64 x] w fun r w' => r = .returned (.bool (coordB x)) ∧ Below w.heap.size w w' := by
  by_cases hx : fin x
  · have hB : coordB x = (decide ((fval x).natAbs ≤ 2 ^ (unitE + 100)) && decide ((fval x).natAbs % 2 ^ gridE = 0)) := by
      unfold coordB
      rw [fle_val (fin_abs hx) fin_c100, fval_abs, fval_c100]
      congr 1
      apply decide_eq_decide.2
      have cast : ((2 ^ (unitE + 100) : Nat) : Int) = (2 : Int) ^ (unitE + 100) := by simp
      rw [← cast]
      exact Int.ofNat_le
    by_cases h0 : fval x = 0
    · have : coordB x = true := by rw [hB, h0]; simp
      rw [this]
      exact coord04_zero hx h0
    · rw [hB]
      exact coord04_main hx h0
  · have hB : coordB x = false := by
      unfold coordB
      cases h : fle (x % 2 ^ 63) 5057542381537067008
      · rfl
      · exact absurd (fin_of_le h64 h) hx
    rw [hB]
    rcases unfin_read hx h64 with ⟨s, h⟩ | h
    · exact coord04_inf h
    · exact coord04_nan h

set_option maxRecDepth 100000 in
set_option maxHeartbeats 4000000 in
theorem may04 {p : Pt} {w : World} (hp : pt64 p) :
    Calls Tryz.prog 221 #[.agg #[.float .f64 p.1, .float .f64 p.2]] w fun r w' => r = .returned (.bool (ptOK p)) ∧ Below w.heap.size w w' := by
  have H1 : Hid (∀ w, Calls Tryz.prog 278 #[.float .f64 p.1] w fun r w' => r = .returned (.bool (coordB p.1)) ∧ Hid (Below w.heap.size w w')) := fun w => coord04 hp.1
  have H2 : Hid (∀ w, Calls Tryz.prog 278 #[.float .f64 p.2] w fun r w' => r = .returned (.bool (coordB p.2)) ∧ Hid (Below w.heap.size w w')) := fun w => coord04 hp.2
  unfold ptOK
  cases h : coordB p.1
  all_goals
    rw [h] at H1
    clear h hp
    go_enter Tryz.func221, Tryz.ntmps221
    go_wp2_with (first
      | (go_at_call 278; (with_reducible refine (H1.out _).mono ?_); rintro r w1 ⟨rfl, HB1⟩; have c1 : w1.cell? ⟨w.heap.size, 1, none⟩ = some (.float .f64 p.2) := ((BoxN.new w #[.float .f64 p.1, .float .f64 p.2] 52).below HB1.out).c 1)
      | (go_at_call 278; (with_reducible refine (H2.out _).mono ?_); rintro r w2 ⟨rfl, HB2⟩))
    go_ret
    first
      | exact ⟨rfl, bseq (bseq ((Below.refl _ _).alloc (Nat.le_refl _) _) HB1.out) HB2.out⟩
      | exact ⟨rfl, bseq ((Below.refl _ _).alloc (Nat.le_refl _) _) HB1.out⟩

set_option maxRecDepth 100000 in
set_option maxHeartbeats 4000000 in
/-- a coordinate less another one -/
theorem less04 {x y : Nat} {w : World} (hx : x < 2 ^ 64 ∧ coordB x = true) (hy : y < 2 ^ 64 ∧ coordB y = true) :
    Calls Tryz.prog 279 #[.float .f64 x, .float .f64 y] w (NumR 8 ((fval x - fval y) * 2 ^ 3726) w) := by
  obtain ⟨a, ha⟩ : ∃ a, Hid (fval x * 2 ^ 3726 = a) := ⟨fval x * 2 ^ 3726, rfl⟩
  obtain ⟨b, hb⟩ : ∃ b, Hid (fval y * 2 ^ 3726 = b) := ⟨fval y * 2 ^ 3726, rfl⟩
  have HX : Hid (∀ W, Calls Tryz.prog 192 #[.float .f64 x] W (NumR 7 a W)) := fun W => numR (by have := ofK_may (w := W) hx.1 hx.2; rw [ha.out] at this; exact this)
  have HY : Hid (∀ W, Calls Tryz.prog 192 #[.float .f64 y] W (NumR 7 b W)) := fun W => numR (by have := ofK_may (w := W) hy.1 hy.2; rw [hb.out] at this; exact this)
  have HS : Hid (∀ W u v, NumK W u 7 a → NumK W v 7 b → Calls Tryz.prog 181 #[u, v] W (NumR 8 (a - b) W)) := fun W u v hu hv => numR (by refine (subK hu hv (by omega)).mono ?_; rintro r w' ⟨z, rfl, h1, h2⟩; exact ⟨z, rfl, h1.out, h2.out⟩)
  rw [Int.sub_mul, ha.out, hb.out]
  clear hx hy
  go_enter Tryz.func279, Tryz.ntmps279
  go_wp2_with (first
    | (go_at_call 192; (with_reducible refine (HX.out _).mono ?_); rintro r w1 ⟨ee1, ad1, l1, c1, rfl, HZ1, HB1⟩)
    | (go_at_call 192; (with_reducible refine (HY.out _).mono ?_); rintro r w2 ⟨ee2, ad2, l2, c2, rfl, HZ2, HB2⟩)
    | (go_at_call 181; (with_reducible refine (HS.out _ _ _ (NumR.keep HZ1.out HB2) HZ2.out).mono ?_); rintro r w3 ⟨ee3, ad3, l3, c3, rfl, HZ3, HB3⟩; have HX3 := Lib.hid ((((Box3.new w (.int .i64 0) (.slice none 0 0) (.int .i64 0) 191).below HB1.out).below HB2.out).below HB3.out); obtain ⟨n0, n1, n2⟩ := HX3.out.c; have f0 := HX3.out.fz 0; have f1 := HX3.out.fz 1; have f2 := HX3.out.fz 2))
  obtain ⟨g0, g1, g2⟩ := (HX3.out.put (.int .i64 (sgnI (a - b))) (.slice ad3 l3 c3) (.int .i64 ee3)).c
  refine bodyPost_ret (by simp [results, Tryz.results279, go_sem, g0, g1, g2]; try rfl) rfl ?_
  exact ⟨_, _, _, _, rfl, HZ3.out.put HX3.out _ _ _, (((bseq (bseq (bseq ((Below.refl _ w).alloc (Nat.le_refl _) _) HB1.out) HB2.out) HB3.out).setCell (p := ⟨w.heap.size, 0, none⟩) (Nat.le_refl _) _).setCell (p := ⟨w.heap.size, 1, none⟩) (Nat.le_refl _) _).setCell (p := ⟨w.heap.size, 2, none⟩) (Nat.le_refl _) _⟩

end Go.Proofs.YtdoaniccefdkaaaGreatDoor
