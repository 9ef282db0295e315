/- trivetref04: Sum, Sign, between, On. -/
import Derived.Test.YtdoaniccefdkaaaGreatDoorQR3
import Derived.Test.YtdoaniccefdkaaaGreatDoorQVO
set_option linter.all false
namespace Go.Proofs.YtdoaniccefdkaaaGreatDoor
open Go.RowKit Tvf Go.Maps Go.WideMaps

set_option maxRecDepth 100000 in
set_option maxHeartbeats 1000000 in
theorem sign01 (s ee : Int) (ad : Option Addr) (l c : Nat) (w : World) :
    Calls Tryz.prog 223 #[.agg #[.int .i64 s, .slice ad l c, .int .i64 ee]] w fun r w' => r = .returned (.int .i64 s) ∧ Below w.heap.size w w' := by
  go_enter Tryz.func223, Tryz.ntmps223
  go_wp2
  go_ret
  exact ⟨rfl, (Below.refl _ _).alloc (Nat.le_refl _) _⟩

theorem P6.put3 {w : World} {B r : Nat} {a b c : Pt} (h : P6 w B a b c) (hr : B + 1 + 1 < r) (x y z : Value) : P6 (((w.setCell ⟨r, 0, none⟩ x).setCell ⟨r, 1, none⟩ y).setCell ⟨r, 2, none⟩ z) B a b c := by
  have key : ∀ {g o : Nat} {v : Value}, g ≠ r → w.cell? ⟨g, o, none⟩ = some v → (((w.setCell ⟨r, 0, none⟩ x).setCell ⟨r, 1, none⟩ y).setCell ⟨r, 2, none⟩ z).cell? ⟨g, o, none⟩ = some v := fun {g o v} hg hv => by
    have ne : ∀ k, (⟨r, k, none⟩ : Addr) ≠ ⟨g, o, none⟩ := fun k e => hg (by injection e with e1 e2 e3; exact e1.symm)
    rw [World.cell?_setCell_other _ _ _ _ (ne _), World.cell?_setCell_other _ _ _ _ (ne _), World.cell?_setCell_other _ _ _ _ (ne _)]; exact hv
  exact ⟨key (by omega) h.1, key (by omega) h.2.1, key (by omega) h.2.2.1, key (by omega) h.2.2.2.1, key (by omega) h.2.2.2.2.1, key (by omega) h.2.2.2.2.2⟩

set_option maxRecDepth 100000 in
set_option maxHeartbeats 8000000 in
theorem sum04 {a b c : Pt} {w : World} (ha : PtO a) (hb : PtO b) (hc : PtO c) :
    Calls Tryz.prog 224 #[V a, V b, V c] w fun r w' => ∃ (ee : Int) (ad : Option Addr) (l cp : Nat), r = .returned (.agg #[.int .i64 (sgnI (det a b c)), .slice ad l cp, .int .i64 ee]) ∧ Hid (Below w.heap.size w w') := by
  have co : ∀ {p : Pt}, PtO p → (p.1 < 2 ^ 64 ∧ coordB p.1 = true) ∧ (p.2 < 2 ^ 64 ∧ coordB p.2 = true) := by
    rintro p ⟨h1, h2⟩
    unfold ptOK at h2
    rw [Bool.and_eq_true] at h2
    exact ⟨⟨h1.1, h2.1⟩, ⟨h1.2, h2.2⟩⟩
  obtain ⟨k1, hk1⟩ : ∃ k, Hid ((fval b.1 - fval a.1) * 2 ^ 3726 = k) := ⟨(fval b.1 - fval a.1) * 2 ^ 3726, rfl⟩
  obtain ⟨k2, hk2⟩ : ∃ k, Hid ((fval c.2 - fval a.2) * 2 ^ 3726 = k) := ⟨(fval c.2 - fval a.2) * 2 ^ 3726, rfl⟩
  obtain ⟨k3, hk3⟩ : ∃ k, Hid ((fval b.2 - fval a.2) * 2 ^ 3726 = k) := ⟨(fval b.2 - fval a.2) * 2 ^ 3726, rfl⟩
  obtain ⟨k4, hk4⟩ : ∃ k, Hid ((fval c.1 - fval a.1) * 2 ^ 3726 = k) := ⟨(fval c.1 - fval a.1) * 2 ^ 3726, rfl⟩
  have HL1 : Hid (∀ W, Calls Tryz.prog 279 #[.float .f64 b.1, .float .f64 a.1] W (NumR 8 k1 W)) := fun W => by rw [← hk1.out]; exact less04 (co hb).1 (co ha).1
  have HL2 : Hid (∀ W, Calls Tryz.prog 279 #[.float .f64 c.2, .float .f64 a.2] W (NumR 8 k2 W)) := fun W => by rw [← hk2.out]; exact less04 (co hc).2 (co ha).2
  have HL3 : Hid (∀ W, Calls Tryz.prog 279 #[.float .f64 b.2, .float .f64 a.2] W (NumR 8 k3 W)) := fun W => by rw [← hk3.out]; exact less04 (co hb).2 (co ha).2
  have HL4 : Hid (∀ W, Calls Tryz.prog 279 #[.float .f64 c.1, .float .f64 a.1] W (NumR 8 k4 W)) := fun W => by rw [← hk4.out]; exact less04 (co hc).1 (co ha).1
  have HMU : Hid (∀ W u v x y, NumK W u 8 x → NumK W v 8 y → Calls Tryz.prog 179 #[u, v] W fun r w' => ∃ (q : Int) (ee : Int) (ad : Option Addr) (l c : Nat), r = .returned (.agg #[.int .i64 (sgnI q), .slice ad l c, .int .i64 ee]) ∧ Hid (NumK w' (.agg #[.int .i64 (sgnI q), .slice ad l c, .int .i64 ee]) 16 q) ∧ Hid (q * (BB ^ 200 : Nat) = x * y) ∧ Hid (Below W.heap.size W w')) := fun W u v x y hu hv => by
    refine (mulK hu hv (by omega)).mono ?_
    rintro r w' ⟨z, q, rfl, hz, hq, hb⟩
    obtain ⟨s, ee, ad, l, c, rfl, rfl⟩ := hz.agg
    exact ⟨q, ee, ad, l, c, rfl, hz, hq, hb⟩
  have HSB : Hid (∀ W u v x y, NumK W u 16 x → NumK W v 16 y → Calls Tryz.prog 181 #[u, v] W (NumR 17 (x - y) W)) := fun W u v x y hu hv => numR (by refine (subK hu hv (by omega)).mono ?_; rintro r w' ⟨z, rfl, h1, h2⟩; exact ⟨z, rfl, h1.out, h2.out⟩)
  have HSG : Hid (∀ p q : Int, p * (BB ^ 200 : Nat) = k1 * k2 → q * (BB ^ 200 : Nat) = k3 * k4 → sgnI (p - q) = sgnI (det a b c)) := fun p q h1 h2 => turn_val (by rw [hk1.out, hk2.out]; exact h1) (by rw [hk3.out, hk4.out]; exact h2)
  generalize sgnI (det a b c) = sg at *
  clear hk1 hk2 hk3 hk4 ha hb hc co
  unfold V at *
  obtain ⟨WX, hWX⟩ : ∃ WX : World, WX = (((w.alloc (.cells #[.float .f64 a.1, .float .f64 a.2] 52)).alloc (.cells #[.float .f64 b.1, .float .f64 b.2] 52)).alloc (.cells #[.float .f64 c.1, .float .f64 c.2] 52)).alloc zNum := ⟨_, rfl⟩
  have HBX : Hid (Below w.heap.size w WX) := by rw [hWX]; exact (((Below.refl _ w).alloc (Nat.le_refl _) _).alloc (by simp) _).alloc (by simp <;> omega) _ |>.alloc (by simp <;> omega) _
  have HPX : Hid (P6 WX w.heap.size a b c) := by rw [hWX]; exact (P6.made w a b c _).below ((Below.refl _ _).alloc (Nat.le_refl _) _)
  have HRX : Hid (Z3b WX (w.heap.size + 1 + 1 + 1)) := by
    rw [hWX]
    have := Box3.new (((w.alloc (.cells #[.float .f64 a.1, .float .f64 a.2] 52)).alloc (.cells #[.float .f64 b.1, .float .f64 b.2] 52)).alloc (.cells #[.float .f64 c.1, .float .f64 c.2] 52)) (.int .i64 0) (.slice none 0 0) (.int .i64 0) tNum
    rwa [show (((w.alloc (.cells #[.float .f64 a.1, .float .f64 a.2] 52)).alloc (.cells #[.float .f64 b.1, .float .f64 b.2] 52)).alloc (.cells #[.float .f64 c.1, .float .f64 c.2] 52)).heap.size = w.heap.size + 1 + 1 + 1 from by simp] at this
  have HWW := Lib.hid hWX
  unfold zNum at HWW
  clear hWX
  go_enter Tryz.func224, Tryz.ntmps224
  go_wp2
  rw [← HWW.out]
  have HP0 := Lib.hid (HPX.out.below (Below.refl _ WX).drew)
  have HR0 := Lib.hid (Box3.below HRX.out (Below.refl _ WX).drew)
  have HB0 := Lib.hid (HBX.out.drew)
  have n0 := HP0.out
  go_region_held3 (fun W => W.cell? ⟨w.heap.size, 0, none⟩ = some (.float .f64 a.1) ∧ W.cell? ⟨w.heap.size, 1, none⟩ = some (.float .f64 a.2) ∧ W.cell? ⟨w.heap.size + 1, 0, none⟩ = some (.float .f64 b.1) ∧ W.cell? ⟨w.heap.size + 1, 1, none⟩ = some (.float .f64 b.2) ∧ W.cell? ⟨w.heap.size + 1 + 1, 0, none⟩ = some (.float .f64 c.1) ∧ W.cell? ⟨w.heap.size + 1 + 1, 1, none⟩ = some (.float .f64 c.2)) (first | exact n0 | exact n1 | exact n2 | exact n3 | exact n4 | exact n5 | exact n6 | exact n7 | exact n8)
    (first
      | (go_at_call 279; (with_reducible refine (HL1.out _).mono ?_); rintro r w1 ⟨e1, a1, l1, c1, rfl, HZ1, HB1⟩; have HP1 := Lib.hid (P6.below HP0.out HB1.out); have HR1 := Lib.hid (Box3.below HR0.out HB1.out); have BW1 := Lib.hid (bseq HB0.out HB1.out); have n1 := HP1.out)
      | (go_at_call 279; (with_reducible refine (HL2.out _).mono ?_); rintro r w2 ⟨e2, a2, l2, c2, rfl, HZ2, HB2⟩; have HP2 := Lib.hid (P6.below HP1.out HB2.out); have HR2 := Lib.hid (Box3.below HR1.out HB2.out); have BW2 := Lib.hid (bseq BW1.out HB2.out); have HZ1b := Lib.hid (HZ1.out.below HB2.out); have n2 := HP2.out)
      | (go_at_call 179; (with_reducible refine (HMU.out _ _ _ _ _ HZ1b.out HZ2.out).mono ?_); rintro r w3 ⟨q3, e3, a3, l3, c3, rfl, HZ3, HQ3, HB3⟩; have HP3 := Lib.hid (P6.below HP2.out HB3.out); have HR3 := Lib.hid (Box3.below HR2.out HB3.out); have BW3 := Lib.hid (bseq BW2.out HB3.out); have n3 := HP3.out)
      | (go_at_call 279; (with_reducible refine (HL3.out _).mono ?_); rintro r w4 ⟨e4, a4, l4, c4, rfl, HZ4, HB4⟩; have HP4 := Lib.hid (P6.below HP3.out HB4.out); have HR4 := Lib.hid (Box3.below HR3.out HB4.out); have BW4 := Lib.hid (bseq BW3.out HB4.out); have HZ3b := Lib.hid (HZ3.out.below HB4.out); have n4 := HP4.out)
      | (go_at_call 279; (with_reducible refine (HL4.out _).mono ?_); rintro r w5 ⟨e5, a5, l5, c5, rfl, HZ5, HB5⟩; have HP5 := Lib.hid (P6.below HP4.out HB5.out); have HR5 := Lib.hid (Box3.below HR4.out HB5.out); have BW5 := Lib.hid (bseq BW4.out HB5.out); have HZ4b := Lib.hid (HZ4.out.below HB5.out); have HZ3c := Lib.hid (HZ3b.out.below HB5.out); have n5 := HP5.out)
      | (go_at_call 179; (with_reducible refine (HMU.out _ _ _ _ _ HZ4b.out HZ5.out).mono ?_); rintro r w6 ⟨q6, e6, a6, l6, c6, rfl, HZ6, HQ6, HB6⟩; have HP6 := Lib.hid (P6.below HP5.out HB6.out); have HR6 := Lib.hid (Box3.below HR5.out HB6.out); have BW6 := Lib.hid (bseq BW5.out HB6.out); have HZ3d := Lib.hid (HZ3c.out.below HB6.out); have n6 := HP6.out)
      | (go_at_call 181; (with_reducible refine (HSB.out _ _ _ _ _ HZ3d.out HZ6.out).mono ?_); rintro r w7 ⟨e7, a7, l7, c7, rfl, HZ7, HB7⟩; have HP7 := Lib.hid (P6.below HP6.out HB7.out); have HR7 := Lib.hid (Box3.below HR6.out HB7.out); have BW7 := Lib.hid (bseq BW6.out HB7.out); have n7 := HP7.out; have n8 := P6.put3 (r := w.heap.size + 1 + 1 + 1) HP7.out (by omega) (.int .i64 (sgnI (q3 - q6))) (.slice a7 l7 c7) (.int .i64 e7); obtain ⟨m0, m1, m2⟩ := HR7.out.c; have f0 := HR7.out.fz 0; have f1 := HR7.out.fz 1; have f2 := HR7.out.fz 2))
  all_goals
    have HSS := Lib.hid (HSG.out q3 q6 HQ3.out HQ6.out)
    go_wp2
    obtain ⟨g0, g1, g2⟩ := (HR7.out.put (.int .i64 (sgnI (q3 - q6))) (.slice a7 l7 c7) (.int .i64 e7)).c
    refine bodyPost_ret (by simp [results, Tryz.results224, go_sem, g0, g1, g2]; try rfl) rfl ?_
    rw [HSS.out]
    exact ⟨_, _, _, _, rfl, below_put BW7.out (by omega)⟩

set_option maxRecDepth 100000 in
set_option maxHeartbeats 4000000 in
theorem sign04 {a b c : Pt} (ha : pt64 a) (hb : pt64 b) (hc : pt64 c) (w : World) :
    Calls Tryz.prog 172 #[V a, V b, V c] w fun r w' => r = .returned (.int .i64 (signI a b c)) ∧ Below w.heap.size w w' := by
  have HA : Hid (∀ W, Calls Tryz.prog 221 #[.agg #[.float .f64 a.1, .float .f64 a.2]] W fun r w' => r = .returned (.bool (ptOK a)) ∧ Below W.heap.size W w') := fun W => may04 ha
  have HB : Hid (∀ W, Calls Tryz.prog 221 #[.agg #[.float .f64 b.1, .float .f64 b.2]] W fun r w' => r = .returned (.bool (ptOK b)) ∧ Below W.heap.size W w') := fun W => may04 hb
  have HC : Hid (∀ W, Calls Tryz.prog 221 #[.agg #[.float .f64 c.1, .float .f64 c.2]] W fun r w' => r = .returned (.bool (ptOK c)) ∧ Below W.heap.size W w') := fun W => may04 hc
  have HT : Hid (ptOK a = true → ptOK b = true → ptOK c = true → ∀ W, Calls Tryz.prog 224 #[.agg #[.float .f64 a.1, .float .f64 a.2], .agg #[.float .f64 b.1, .float .f64 b.2], .agg #[.float .f64 c.1, .float .f64 c.2]] W fun r w' => ∃ (ee : Int) (ad : Option Addr) (l cp : Nat), r = .returned (.agg #[.int .i64 (sgnI (det a b c)), .slice ad l cp, .int .i64 ee]) ∧ Hid (Below W.heap.size W w')) := fun h1 h2 h3 W => sum04 ⟨ha, h1⟩ ⟨hb, h2⟩ ⟨hc, h3⟩
  have HG : Hid (∀ (ee : Int) (ad : Option Addr) (l cp : Nat) W, Calls Tryz.prog 223 #[.agg #[.int .i64 (sgnI (det a b c)), .slice ad l cp, .int .i64 ee]] W fun r w' => r = .returned (.int .i64 (sgnI (det a b c))) ∧ Below W.heap.size W w') := fun ee ad l cp W => sign01 _ _ _ _ _ W
  have HS : Hid (signI a b c = if (ptOK a && (ptOK b && ptOK c)) = true then sgnI (det a b c) else 0) := by unfold Hid signI; simp
  have HP := Lib.hid (P6.made w a b c 52)
  have HB0 : Hid (Below w.heap.size w (((w.alloc (.cells #[.float .f64 a.1, .float .f64 a.2] 52)).alloc (.cells #[.float .f64 b.1, .float .f64 b.2] 52)).alloc (.cells #[.float .f64 c.1, .float .f64 c.2] 52))) := (((Below.refl _ w).alloc (Nat.le_refl _) _).alloc (by simp) _).alloc (by simp; omega) _
  generalize signI a b c = sg at *
  generalize sgnI (det a b c) = dt at *
  generalize ptOK a = oa at *
  generalize ptOK b = ob at *
  generalize ptOK c = oc at *
  unfold V at *
  clear ha hb hc
  have h4 : oa = false ∨ (oa = true ∧ ob = false) ∨ (oa = true ∧ ob = true ∧ oc = false) ∨ (oa = true ∧ ob = true ∧ oc = true) := by cases oa <;> cases ob <;> cases oc <;> simp
  rcases h4 with rfl | ⟨rfl, rfl⟩ | ⟨rfl, rfl, rfl⟩ | ⟨rfl, rfl, rfl⟩
  all_goals
    have HS2 : Hid (sg = _) := HS.out
    simp only [Bool.false_and, Bool.and_false, Bool.true_and, Bool.and_true, Bool.false_eq_true, if_false, if_true] at HS2
    try have HT2 := Lib.hid (HT.out rfl rfl rfl)
    clear HT
    go_enter Tryz.func172, Tryz.ntmps172
    go_wp2_with (first
      | (go_at_call 221; (with_reducible refine (HA.out _).mono ?_); rintro r w1 ⟨rfl, hb1⟩; have p1 := HP.out.below hb1; have P1 := Lib.hid p1; obtain ⟨q1, q2, q3, q4, q5, q6⟩ := p1; have B1 := Lib.hid (bseq HB0.out hb1))
      | (go_at_call 221; (with_reducible refine (HB.out _).mono ?_); rintro r w2 ⟨rfl, hb2⟩; clear q1 q2 q3 q4 q5 q6; have p2 := P1.out.below hb2; have P2 := Lib.hid p2; obtain ⟨q1, q2, q3, q4, q5, q6⟩ := p2; have B2 := Lib.hid (bseq B1.out hb2))
      | (go_at_call 221; (with_reducible refine (HC.out _).mono ?_); rintro r w3 ⟨rfl, hb3⟩; clear q1 q2 q3 q4 q5 q6; have p3 := P2.out.below hb3; obtain ⟨q1, q2, q3, q4, q5, q6⟩ := p3; have B3 := Lib.hid (bseq B2.out hb3))
      | (go_at_call 224; (with_reducible refine (HT2.out _).mono ?_); rintro r w4 ⟨ee, ad, l, cp, rfl, hb4⟩; have B4 := Lib.hid (bseq B3.out hb4.out))
      | (go_at_call 223; (with_reducible refine (HG.out _ _ _ _ _).mono ?_); rintro r w5 ⟨rfl, hb5⟩; have B5 := Lib.hid (bseq B4.out hb5)))
    go_ret
    rw [HS2.out]
    first
      | exact ⟨rfl, B5.out⟩
      | exact ⟨rfl, B3.out⟩
      | exact ⟨rfl, B2.out⟩
      | exact ⟨rfl, B1.out⟩

set_option maxRecDepth 100000 in
set_option maxHeartbeats 1000000 in
theorem btw04 (x y z : Nat) (w : World) :
    Calls Tryz.prog 222 #[.float .f64 x, .float .f64 y, .float .f64 z] w fun r w' => r = .returned (.bool (btB x y z)) ∧ Below w.heap.size w w' := by
  unfold btB
  cases h1 : fle x z <;> cases h2 : fle z y <;> cases h3 : fle y z <;> cases h4 : fle z x
  all_goals
    go_enter Tryz.func222, Tryz.ntmps222
    go_wp2
    go_ret
    exact ⟨by simp, Below.refl _ _⟩

set_option maxRecDepth 100000 in
set_option maxHeartbeats 8000000 in
theorem on04 {a b c : Pt} (ha : pt64 a) (hb : pt64 b) (hc : pt64 c) (w : World) :
    Calls Tryz.prog 171 #[V a, V b, V c] w fun r w' => r = .returned (.bool (onB a b c)) ∧ Below w.heap.size w w' := by
  have HA : Hid (∀ W, Calls Tryz.prog 221 #[.agg #[.float .f64 a.1, .float .f64 a.2]] W fun r w' => r = .returned (.bool (ptOK a)) ∧ Below W.heap.size W w') := fun W => may04 ha
  have HB : Hid (∀ W, Calls Tryz.prog 221 #[.agg #[.float .f64 b.1, .float .f64 b.2]] W fun r w' => r = .returned (.bool (ptOK b)) ∧ Below W.heap.size W w') := fun W => may04 hb
  have HC : Hid (∀ W, Calls Tryz.prog 221 #[.agg #[.float .f64 c.1, .float .f64 c.2]] W fun r w' => r = .returned (.bool (ptOK c)) ∧ Below W.heap.size W w') := fun W => may04 hc
  have HS : Hid (∀ W, Calls Tryz.prog 172 #[.agg #[.float .f64 a.1, .float .f64 a.2], .agg #[.float .f64 b.1, .float .f64 b.2], .agg #[.float .f64 c.1, .float .f64 c.2]] W fun r w' => r = .returned (.int .i64 (signI a b c)) ∧ Below W.heap.size W w') := fun W => sign04 ha hb hc W
  have HX : Hid (∀ W, Calls Tryz.prog 222 #[.float .f64 a.1, .float .f64 b.1, .float .f64 c.1] W fun r w' => r = .returned (.bool (btB a.1 b.1 c.1)) ∧ Below W.heap.size W w') := fun W => btw04 _ _ _ W
  have HY : Hid (∀ W, Calls Tryz.prog 222 #[.float .f64 a.2, .float .f64 b.2, .float .f64 c.2] W fun r w' => r = .returned (.bool (btB a.2 b.2 c.2)) ∧ Below W.heap.size W w') := fun W => btw04 _ _ _ W
  have HP := Lib.hid (P6.made w a b c 52)
  have HB0 : Hid (Below w.heap.size w (((w.alloc (.cells #[.float .f64 a.1, .float .f64 a.2] 52)).alloc (.cells #[.float .f64 b.1, .float .f64 b.2] 52)).alloc (.cells #[.float .f64 c.1, .float .f64 c.2] 52))) := (((Below.refl _ w).alloc (Nat.le_refl _) _).alloc (by simp) _).alloc (by simp; omega) _
  unfold onB
  generalize signI a b c = sg at *
  generalize btB a.1 b.1 c.1 = bx at *
  generalize btB a.2 b.2 c.2 = bY at *
  generalize ptOK a = oa at *
  generalize ptOK b = ob at *
  generalize ptOK c = oc at *
  unfold V at *
  clear ha hb hc
  have h4 : oa = false ∨ (oa = true ∧ ob = false) ∨ (oa = true ∧ ob = true ∧ oc = false) ∨ (oa = true ∧ ob = true ∧ oc = true ∧ sg ≠ 0) ∨ (oa = true ∧ ob = true ∧ oc = true ∧ sg = 0 ∧ bx = false) ∨ (oa = true ∧ ob = true ∧ oc = true ∧ sg = 0 ∧ bx = true) := by
    by_cases q : sg = 0 <;> cases oa <;> cases ob <;> cases oc <;> cases bx <;> simp [q]
  rcases h4 with rfl | ⟨rfl, rfl⟩ | ⟨rfl, rfl, rfl⟩ | ⟨rfl, rfl, rfl, h0⟩ | ⟨rfl, rfl, rfl, rfl, rfl⟩ | ⟨rfl, rfl, rfl, rfl, rfl⟩
  all_goals
    go_enter Tryz.func171, Tryz.ntmps171
    go_wp2_with (first
      | (go_at_call 221; (with_reducible refine (HA.out _).mono ?_); rintro r w1 ⟨rfl, hb1⟩; have p1 := HP.out.below hb1; have P1 := Lib.hid p1; obtain ⟨q1, q2, q3, q4, q5, q6⟩ := p1; have B1 := Lib.hid (bseq HB0.out hb1))
      | (go_at_call 221; (with_reducible refine (HB.out _).mono ?_); rintro r w2 ⟨rfl, hb2⟩; clear q1 q2 q3 q4 q5 q6; have p2 := P1.out.below hb2; have P2 := Lib.hid p2; obtain ⟨q1, q2, q3, q4, q5, q6⟩ := p2; have B2 := Lib.hid (bseq B1.out hb2))
      | (go_at_call 221; (with_reducible refine (HC.out _).mono ?_); rintro r w3 ⟨rfl, hb3⟩; clear q1 q2 q3 q4 q5 q6; have p3 := P2.out.below hb3; have P3 := Lib.hid p3; obtain ⟨q1, q2, q3, q4, q5, q6⟩ := p3; have B3 := Lib.hid (bseq B2.out hb3))
      | (go_at_call 172; (with_reducible refine (HS.out _).mono ?_); rintro r w4 ⟨rfl, hb4⟩; clear q1 q2 q3 q4 q5 q6; have p4 := P3.out.below hb4; have P4 := Lib.hid p4; obtain ⟨q1, q2, q3, q4, q5, q6⟩ := p4; have B4 := Lib.hid (bseq B3.out hb4))
      | (go_at_call 222; (with_reducible refine (HX.out _).mono ?_); rintro r w5 ⟨rfl, hb5⟩; clear q1 q2 q3 q4 q5 q6; have p5 := P4.out.below hb5; have P5 := Lib.hid p5; obtain ⟨q1, q2, q3, q4, q5, q6⟩ := p5; have B5 := Lib.hid (bseq B4.out hb5))
      | (go_at_call 222; (with_reducible refine (HY.out _).mono ?_); rintro r w6 ⟨rfl, hb6⟩; have B6 := Lib.hid (bseq B5.out hb6)))
    go_ret
    first
      | exact ⟨by simp, B6.out⟩
      | exact ⟨by simp, B5.out⟩
      | exact ⟨by simp [h0], B4.out⟩
      | exact ⟨by simp, B3.out⟩
      | exact ⟨by simp, B2.out⟩
      | exact ⟨by simp, B1.out⟩

end Go.Proofs.YtdoaniccefdkaaaGreatDoor
