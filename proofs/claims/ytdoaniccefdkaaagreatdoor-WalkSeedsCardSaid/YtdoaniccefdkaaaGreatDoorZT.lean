/- Part of the proof. No conditions. -/
import Derived.Test.YtdoaniccefdkaaaGreatDoorZO
import Derived.Test.YtdoaniccefdkaaaGreatDoorZP
import Derived.Test.YtdoaniccefdkaaaGreatDoorZS
import Derived.WalkMore

set_option linter.all false
/- walk.Find. -/
namespace Go.Proofs.YtdoaniccefdkaaaGreatDoor
open Go.RowKit Tvf Go.Maps Go.WideMaps

set_option maxRecDepth 100000 in
set_option maxHeartbeats 1000000 in
theorem find_nil (p : Pt) (v : Value) (w : World) :
    Calls Tryz.prog 51 #[.pointer none, V p, v] w fun r w' => r = .returned (.tuple #[plcV plc0, .int .i64 2]) ∧ Below w.heap.size w w' := by
  unfold V
  go_enter Tryz.func51, Tryz.ntmps51
  go_wp2
  go_step3
  go_wp2
  rw [Exit.noGoto_ret]
  refine bodyPost_ret (by simp [results, Tryz.results51, go_sem]; try rfl) rfl ?_
  exact ⟨rfl, ((Below.refl _ _).alloc (Nat.le_refl _) _).alloc (by simp) _⟩

/-- the boxes of Find -/
theorem find_boxes (w : World) (xs ys : Array Value) (T1 T2 : TypeId) :
    BoxN T1 ((w.alloc (.cells xs T1)).alloc (.cells ys T2)) w.heap.size xs ∧ BoxN T2 ((w.alloc (.cells xs T1)).alloc (.cells ys T2)) (w.heap.size + 1) ys ∧ Below w.heap.size w ((w.alloc (.cells xs T1)).alloc (.cells ys T2)) := by
  have e1 : (w.alloc (.cells xs T1)).heap.size = w.heap.size + 1 := by simp
  refine ⟨(BoxN.new w xs T1).al _, ?_, ((Below.refl _ w).alloc (Nat.le_refl _) _).alloc (by simp) _⟩
  have := BoxN.new (w.alloc (.cells xs T1)) ys T2
  rwa [e1] at this

set_option maxRecDepth 100000 in
set_option maxHeartbeats 2000000 in
theorem find_bad {w : World} {mb : Nat} (p : Pt) (hp : pt64 p) (hk : ptOK p = false) (v : Value) :
    Calls Tryz.prog 51 #[.pointer (some ⟨mb, 0, none⟩), V p, v] w fun r w' => r = .returned (.tuple #[plcV plc0, .int .i64 10]) ∧ Below w.heap.size w w' := by
  have HM := Lib.hid (may_walk p hp)
  rw [hk] at HM
  obtain ⟨px, py⟩ := p
  unfold V at *
  dsimp only at *
  obtain ⟨HP, HR, HB⟩ := find_boxes w #[.float .f64 px, .float .f64 py] #[.int .u8 0, .int .i64 0, .int .i64 0, .int .i64 0] 52 87
  clear hp hk
  go_enter Tryz.func51, Tryz.ntmps51
  go_wp2
  go_step3
  go_wp2_with (go_at_call 95; with_reducible refine (HM.out _).mono ?_; rintro r w1 ⟨rfl, hb1⟩; have HRb := HR.below hb1; obtain ⟨r0, r1, r2, r3⟩ := HRb.c4; have g0 := HRb.fz 0; have g1 := HRb.fz 1; have g2 := HRb.fz 2; have g3 := HRb.fz 3)
  rw [Exit.noGoto_ret]
  obtain ⟨f0, f1, f2, f3⟩ := (HRb.put4 (.int .u8 0) (.int .i64 0) (.int .i64 0) (.int .i64 0)).c4
  refine bodyPost_ret (by simp [results, Tryz.results51, go_sem, f0, f1, f2, f3]; try rfl) rfl ?_
  exact ⟨rfl, put4_below (HB.trans (hb1.mono HB.size)) (by omega) _ _ _ _⟩

theorem findL_eq {M : MeshM} {p : Pt} {s : Nat} {L : List Tri3} (h : ¬L.length = 0) : findL M p s L = (goM M p L.length (L.getD (s % L.length) (0, 0, 0))).getD (scanM M p L) := by
  unfold findL
  rw [if_neg h]
  cases goM M p L.length (L.getD (s % L.length) (0, 0, 0)) <;> rfl
theorem atV_none {M : MeshM} {p : Pt} {t : Tri3} (h : outM M p t = none) : atV M p t = .tuple #[plcV (placeM M p t), .int .i64 0, .bool true] := by unfold atV; rw [h]
theorem atV_some {M : MeshM} {p : Pt} {t : Tri3} {i : Int} (h : outM M p t = some i) : atV M p t = .tuple #[.agg #[.int .u8 0, .int .i64 0, .int .i64 0, .int .i64 0], .int .i64 i, .bool false] := by unfold atV; rw [h]; rfl
theorem drop_at {L : List Tri3} {k : Nat} (h : k < L.length) : L.drop k = L.getD k (0, 0, 0) :: L.drop (k + 1) := by
  rw [List.drop_eq_getElem_cons h, List.getD_eq_getElem?_getD, List.getElem?_eq_getElem h]; rfl
theorem KCells.low {α : Type} {enc : α → List Value} {w w' : World} {g B : Nat} {l : List α} (h : KCells enc w (some ⟨g, 0, none⟩) l) (hb : Below B w w') (hg : g < B) : KCells enc w' (some ⟨g, 0, none⟩) l := by
  intro hl
  obtain ⟨g', e, hg', hc⟩ := h hl
  cases e
  exact ⟨g, rfl, Nat.lt_of_lt_of_le hg' hb.size, fun j u hu => (hb.cell (p := ⟨g, j, none⟩) hg).trans (hc j u hu)⟩
theorem put3_below {B : Nat} {w0 w : World} {r : Nat} (h : Below B w0 w) (hr : B ≤ r) (x y z : Value) : Below B w0 (((w.setCell ⟨r, 0, none⟩ x).setCell ⟨r, 1, none⟩ y).setCell ⟨r, 2, none⟩ z) :=
  ((h.setCell (p := ⟨r, 0, none⟩) hr x).setCell (p := ⟨r, 1, none⟩) hr y).setCell (p := ⟨r, 2, none⟩) hr z
theorem BoxN.put3 {T : TypeId} {W : World} {b : Nat} {x y z : Value} (h : BoxN T W b #[x, y, z]) (x' y' z' : Value) :
    BoxN T (((W.setCell ⟨b, 0, none⟩ x').setCell ⟨b, 1, none⟩ y').setCell ⟨b, 2, none⟩ z') b #[x', y', z'] :=
  ((h.set 0 x' (by simp)).set 1 y' (by simp)).set 2 z' (by simp)
theorem trisL_le (ap : Int → Int → Option Int) (n : Nat) : (trisL ap n).length ≤ n * n := by
  unfold trisL
  rw [List.length_map]
  exact Nat.le_trans (List.length_filter_le _ _) (Nat.le_of_eq (idxL_len n))
theorem corT_ok {t : Tri3} (h : i64ok t.1 ∧ i64ok t.2.1 ∧ i64ok t.2.2) (i : Int) : i64ok (corT t i) := by
  unfold corT
  split
  · exact h.2.1
  · split
    · exact h.2.2
    · exact h.1
theorem ownT_ok {a b c : Int} (ha : i64ok a) (hb : i64ok b) (hc : i64ok c) : i64ok (ownT a b c).1 ∧ i64ok (ownT a b c).2.1 ∧ i64ok (ownT a b c).2.2 := by
  unfold ownT
  split
  · exact ⟨hb, hc, ha⟩
  · split
    · exact ⟨hc, ha, hb⟩
    · exact ⟨ha, hb, hc⟩

set_option maxRecDepth 100000 in
set_option maxHeartbeats 8000000 in
theorem find_main {w : World} {mb n : Nat} {M : MeshM} {F : Nat → Prop} (h : MeshAt w mb n M F) (h64 : ∀ p, p ∈ M.P → pt64 p) (hs : Sound M) (hl : M.P.length ≤ 1048576) (p : Pt) (hp : pt64 p) (hk : ptOK p = true) (s : Nat) (hs64 : s < 18446744073709551616) :
    Calls Tryz.prog 51 #[.pointer (some ⟨mb, 0, none⟩), V p, .int .u64 s] w fun r w' => r = .returned (.tuple #[plcV (findM M p s), .int .i64 0]) ∧ Below w.heap.size w w' := by
  have HM := Lib.hid (may_walk p hp)
  rw [hk] at HM
  have HAT := Lib.hid (fun W (hb : Below w.heap.size w W) t => at_walk (h.below hb) h64 p hp t)
  have HTR := Lib.hid (fun W (hb : Below w.heap.size w W) => tris_walk (h.below hb) hs.win hl)
  have HAP := Lib.hid (fun W (hb : Below w.heap.size w W) a b ha hb' => apex_walk (h.below hb) (a := a) (b := b) ha hb')
  have H64 : Hid (∀ a b c, M.ap a b = some c → i64ok a ∧ i64ok b ∧ i64ok c) := fun a b c e => hs.i64 hl e
  have HTL : Hid (∀ t, t ∈ trisL M.ap M.P.length → i64ok t.1 ∧ i64ok t.2.1 ∧ i64ok t.2.2) := by
    intro t ht
    exact hs.i64 hl ((mem_trisL hs.win t).1 ht).1
  have HLN : Hid ((trisL M.ap M.P.length).length ≤ 1099511627776) := by
    have := trisL_le M.ap M.P.length
    have h3 : M.P.length * M.P.length ≤ 1048576 * 1048576 := Nat.mul_le_mul hl hl
    exact Nat.le_trans this (by omega)
  unfold findM
  obtain ⟨px, py⟩ := p
  unfold V at *
  dsimp only at *
  obtain ⟨HP, HR, HB⟩ := find_boxes w #[.float .f64 px, .float .f64 py] #[.int .u8 0, .int .i64 0, .int .i64 0, .int .i64 0] 52 87
  have HPB := Lib.hid HP
  have HRB := Lib.hid HR
  have HBW := Lib.hid HB
  have q := HP.c2
  clear h h64 hs hl hp hk HP HR HB
  generalize hL : trisL M.ap M.P.length = L at *
  clear hL
  by_cases hL0 : L.length = 0
  · have HF : Hid (findL M (px, py) s L = ⟨4, 0, 0, 0⟩) := by unfold Hid findL; rw [if_pos hL0]
    have hL1 : (L.length : Int) = 0 := by omega
    go_enter Tryz.func51, Tryz.ntmps51
    go_wp2
    go_step3
    go_wp2_with (first
      | (go_at_call 95; with_reducible refine (HM.out _).mono ?_; rintro r w1 ⟨rfl, hb1⟩; have HB1 := Lib.hid (HBW.out.trans (hb1.mono HBW.out.size)); have HP1 := Lib.hid (HPB.out.below hb1); have HR1 := Lib.hid (HRB.out.below hb1))
      | (go_at_call 18; with_reducible refine (HTR.out _ HB1.out).mono ?_; rintro r w2 ⟨v, rfl, ho, hb2⟩; obtain ⟨ad, cap, rfl, hkc, hg⟩ := owns_kcells ho; have HB2 := Lib.hid (HB1.out.trans (hb2.mono HB1.out.size)); have HP2 := Lib.hid (HP1.out.below hb2); have HR2 := Lib.hid (HR1.out.below hb2); have HK2 := Lib.hid hkc; clear ho hb2 hkc hg; obtain ⟨r0, r1, r2, r3⟩ := HR2.out.c4; have g0 := HR2.out.fz 0; have g1 := HR2.out.fz 1; have g2 := HR2.out.fz 2; have g3 := HR2.out.fz 3))
    rw [Exit.noGoto_ret]
    obtain ⟨f0, f1, f2, f3⟩ := (HR2.out.put4 (.int .u8 4) (.int .i64 0) (.int .i64 0) (.int .i64 0)).c4
    refine bodyPost_ret (by simp [results, Tryz.results51, go_sem, f0, f1, f2, f3]; try rfl) rfl ?_
    exact ⟨by rw [HF.out]; rfl, put4_below HB2.out (by omega) _ _ _ _⟩
  · have HL0 : Hid (0 < L.length) := by unfold Hid; omega
    have hL1 : ¬(L.length : Int) = 0 := by omega
    have hwl : IntKind.u64.wrap (L.length : Int) = (L.length : Int) := by rw [IntKind.wrap_u64]; have := HLN.out; omega
    have hr : s % L.length < L.length := Nat.mod_lt _ HL0.out
    have hsm : (s : Int) % (L.length : Int) = ((s % L.length : Nat) : Int) := (Int.natCast_emod _ _).symm
    obtain ⟨r, hrd⟩ : ∃ r, s % L.length = r := ⟨_, rfl⟩
    have HFL : Hid (findL M (px, py) s L = (goM M (px, py) L.length (L.getD r (0, 0, 0))).getD (scanM M (px, py) L)) := by unfold Hid; rw [findL_eq hL0, hrd]
    rw [hrd] at hsm hr
    clear hrd
    have hbe : ((L.length : Int) == 0) = false := by simpa using hL1
    have hr1 : (r : Int) < (L.length : Int) := by omega
    have hr2 : (0 : Int) ≤ (r : Int) := by omega
    have HTR2 := Lib.hid (HTL.out (L.getD r (0, 0, 0)) (by rw [List.getD_eq_getElem?_getD, List.getElem?_eq_getElem hr]; exact List.getElem_mem hr))
    have HRL := Lib.hid hr
    clear hr hL0
    go_enter Tryz.func51, Tryz.ntmps51
    go_wp2
    go_step3
    go_wp2_with (first
      | (go_at_call 95; with_reducible refine (HM.out _).mono ?_; rintro r w1 ⟨rfl, hb1⟩; have HB1 := Lib.hid (HBW.out.trans (hb1.mono HBW.out.size)); have HP1 := Lib.hid (HPB.out.below hb1); have HR1 := Lib.hid (HRB.out.below hb1))
      | (go_at_call 18; with_reducible refine (HTR.out _ HB1.out).mono ?_; rintro r w2 ⟨v, rfl, ho, hb2⟩; obtain ⟨ad, cap, rfl, hkc, hg⟩ := owns_kcells ho; have HB2 := Lib.hid (HB1.out.trans (hb2.mono HB1.out.size)); have HP2 := Lib.hid (HP1.out.below hb2); have HR2 := Lib.hid (HR1.out.below hb2); have HK2 := Lib.hid hkc; clear ho hb2 hkc hg; obtain ⟨gb, rfl, hgb, t0, t1, t2⟩ := HK2.out.tri HRL.out; generalize L.getD r (0, 0, 0) = t at HFL HTR2 t0 t1 t2; obtain ⟨ta, tb, tc⟩ := t; dsimp only at t0 t1 t2))
    go_step3
    have HB3 := Lib.hid (HB2.out.alloc HB2.out.size (.cells #[.int .i64 ta, .int .i64 tb, .int .i64 tc] 45))
    have HP3 := Lib.hid (HP2.out.al (.cells #[.int .i64 ta, .int .i64 tb, .int .i64 tc] 45))
    have HR3 := Lib.hid (HR2.out.al (.cells #[.int .i64 ta, .int .i64 tb, .int .i64 tc] 45))
    have HK3 := Lib.hid (HK2.out.below ((Below.refl w2.heap.size w2).alloc (Nat.le_refl _) (.cells #[.int .i64 ta, .int .i64 tb, .int .i64 tc] 45)))
    have HT3 := Lib.hid (BoxN.new w2 #[.int .i64 ta, .int .i64 tb, .int .i64 tc] 45)
    have HS3 : Hid (gb < w2.heap.size ∧ w.heap.size + 1 < w2.heap.size) := ⟨hgb, HR2.out.lt⟩
    clear t0 t1 t2 hgb
    simp only [hsm]
    clear hsm
    generalize hTB : w2.heap.size = TB at *
    generalize w2.alloc (.cells #[.int .i64 ta, .int .i64 tb, .int .i64 tc] 45) = W3 at *
    clear hTB
    go_wp2
    go_loopw [47] (fun s47 wr => ∃ (k : Nat) (u : Tri3), k ≤ L.length ∧ s47 = .int .i64 k ∧ Hid (BoxN 45 wr TB #[.int .i64 u.1, .int .i64 u.2.1, .int .i64 u.2.2]) ∧ Hid (i64ok u.1 ∧ i64ok u.2.1 ∧ i64ok u.2.2) ∧ Hid (goM M (px, py) (L.length - k) u = goM M (px, py) L.length (ta, tb, tc)) ∧ Hid (Below TB W3 wr)) (fun s47 _ => L.length - (intOf s47).toNat)
    case atStart => exact ⟨0, (ta, tb, tc), Nat.zero_le _, rfl, HT3.out, HTR2.out, rfl, Below.refl _ _⟩
    case round =>
      obtain ⟨k, u, hk, rfl, HT, HOK, HG, HBr⟩ := hrel
      have HTB : Hid (TB ≤ wr.heap.size) := by have h1 := HT3.out.lt; have h2 := HBr.out.size; unfold Hid; omega
      have HWr := Lib.hid (HB3.out.trans (HBr.out.mono (by have := HS3.out; omega)))
      have HRr := Lib.hid (HR3.out.low HBr.out HS3.out.2)
      have HPr := Lib.hid (HP3.out.low HBr.out (by have := HS3.out; omega))
      obtain ⟨ua, ub, uc⟩ := u
      dsimp only at HT HOK
      obtain ⟨p0, p1⟩ := HPr.out.c2
      obtain ⟨t0, t1, t2⟩ := HT.out.c3
      by_cases hlt : k < L.length
      · have HKL := Lib.hid hlt
        have HAu := Lib.hid (fun W hb => HAT.out W hb (ua, ub, uc))
        cases ho : outM M (px, py) (ua, ub, uc) with
        | none =>
          have HF : Hid (findL M (px, py) s L = placeM M (px, py) (ua, ub, uc)) := by unfold Hid; rw [HFL.out, ← HG.out, show L.length - k = (L.length - (k + 1)) + 1 by omega, goM_found ho]; rfl
          rw [atV_none ho] at HAu
          generalize placeM M (px, py) (ua, ub, uc) = PL at *
          unfold encTV plcV at HAu
          obtain ⟨pk, pa, pb, pc⟩ := PL
          dsimp only at HAu
          clear ho
          go_wp2_with (go_at_call 113; with_reducible refine (HAu.out _ HWr.out).mono ?_; rintro r w5 ⟨rfl, hb5⟩; have B5 := Lib.hid (HWr.out.trans (hb5.mono HWr.out.size)); have HR5 := Lib.hid ((HRr.out.below hb5).al (.cells #[.int .u8 pk, .int .i64 pa, .int .i64 pb, .int .i64 pc] 87)); obtain ⟨r0, r1, r2, r3⟩ := HR5.out.c4; have g0 := HR5.out.fz 0; have g1 := HR5.out.fz 1; have g2 := HR5.out.fz 2; have g3 := HR5.out.fz 3)
          rw [Exit.noGoto_ret]
          obtain ⟨f0, f1, f2, f3⟩ := (HR5.out.put4 (.int .u8 pk) (.int .i64 pa) (.int .i64 pb) (.int .i64 pc)).c4
          refine bodyPost_ret (by simp [results, Tryz.results51, go_sem, f0, f1, f2, f3]; try rfl) rfl ?_
          exact ⟨by rw [HF.out]; rfl, put4_below (B5.out.alloc B5.out.size _) (by omega) _ _ _ _⟩
        | some i =>
          rw [atV_some ho] at HAu
          unfold encTV at HAu
          dsimp only at HAu
          have hi3 := outM_range ho
          have ho := Lib.hid ho
          rcases hi3 with rfl | rfl | rfl
          · have hca : corT (ua, ub, uc) (0 + 1) = ub := rfl
            have hcb : corT (ua, ub, uc) 0 = ua := rfl
            have HAPu := Lib.hid (fun W hb => HAP.out W hb ub ua (by have := HOK.out; first | exact this.1 | exact this.2.1 | exact this.2.2) (by have := HOK.out; first | exact this.1 | exact this.2.1 | exact this.2.2))
            cases hap : M.ap ub ua with
            | none =>
              have HG2 : Hid (goM M (px, py) L.length (ta, tb, tc) = none) := by unfold Hid; rw [← HG.out, show L.length - k = (L.length - (k + 1)) + 1 by have := HKL.out; omega, goM_stop ho.out (by rw [hca, hcb, hap])]
              rw [hap] at HAPu
              simp only [Option.getD_none, Option.isSome_none] at HAPu
              have HFIN : Hid (findL M (px, py) s L = scanM M (px, py) L) := by unfold Hid; rw [HFL.out, HG2.out]; rfl
              clear hap ho hca hcb HG HG2 HFL
              go_wp2_with (go_at_call 113; with_reducible refine (HAu.out _ HWr.out).mono ?_; rintro r w5 ⟨rfl, hb5⟩; have B5 := Lib.hid ((HBr.out.trans (hb5.mono HTB.out)).alloc (Nat.le_trans HTB.out hb5.size) (.cells #[.int .u8 0, .int .i64 0, .int .i64 0, .int .i64 0] 87)); have T5 := ((HT.out.below hb5).al (.cells #[.int .u8 0, .int .i64 0, .int .i64 0, .int .i64 0] 87)); obtain ⟨x0, x1, x2⟩ := T5.c3)
              go_quiet (fail)
              have B6 := Lib.hid (below_drewNs B5.out nq)
              have B6w := Lib.hid (HB3.out.trans (B6.out.mono (by have := HS3.out; omega)))
              go_wp2_with (go_at_call 19; with_reducible refine (HAPu.out _ B6w.out).mono ?_; rintro r w6 ⟨rfl, rfl⟩)
              have HBl := B6
              clear x0 x1 x2 T5
              go_loopw [83] (fun s83 wr => ∃ k : Nat, k ≤ L.length ∧ s83 = .int .i64 k ∧ Hid (scanM M (px, py) (L.drop k) = scanM M (px, py) L) ∧ Hid (Below TB W3 wr)) (fun s83 _ => L.length - (intOf s83).toNat)
              case atStart => exact ⟨0, Nat.zero_le _, rfl, rfl, HBl.out⟩
              case round =>
                rename World => ws
                obtain ⟨k, hk, rfl, HSC, HBs⟩ := hrel
                have HWs := Lib.hid (HB3.out.trans (HBs.out.mono (by have := HS3.out; omega)))
                have HRs := Lib.hid (HR3.out.low HBs.out HS3.out.2)
                have HPs := Lib.hid (HP3.out.low HBs.out (by have := HS3.out; omega))
                by_cases hlt : k < L.length
                · obtain ⟨_, e, _, t0, t1, t2⟩ := (HK3.out.low HBs.out HS3.out.1).tri hlt
                  cases e
                  have HDR := Lib.hid (drop_at hlt)
                  have HKL := Lib.hid hlt
                  generalize L.getD k (0, 0, 0) = u at HDR t0 t1 t2
                  obtain ⟨ua, ub, uc⟩ := u
                  dsimp only at t0 t1 t2
                  have HAu := Lib.hid (fun W hb => HAT.out W hb (ua, ub, uc))
                  have hbx : Below w.heap.size w (ws.alloc (.cells #[.int .i64 ua, .int .i64 ub, .int .i64 uc] 45)) := HWs.out.alloc HWs.out.size _
                  have HBX := Lib.hid hbx
                  obtain ⟨p0, p1⟩ := HPs.out.c2
                  have q0 := fun o => cell_al p0 o
                  have q1 := fun o => cell_al p1 o
                  cases ho : outM M (px, py) (ua, ub, uc) with
                  | none =>
                    have HF : Hid (scanM M (px, py) L = placeM M (px, py) (ua, ub, uc)) := by unfold Hid; rw [← HSC.out, HDR.out, scanM_here ho]
                    rw [atV_none ho] at HAu
                    generalize placeM M (px, py) (ua, ub, uc) = PL at *
                    unfold encTV plcV at HAu
                    obtain ⟨pk, pa, pb, pc⟩ := PL
                    dsimp only at HAu
                    clear ho
                    go_wp2_with (go_at_call 113; with_reducible refine (HAu.out _ HBX.out).mono ?_; rintro r w5 ⟨rfl, hb5⟩; have B5 := Lib.hid (HBX.out.trans (hb5.mono HBX.out.size)); have HR5 := Lib.hid (((HRs.out.al _).below hb5).al (.cells #[.int .u8 pk, .int .i64 pa, .int .i64 pb, .int .i64 pc] 87)); obtain ⟨r0, r1, r2, r3⟩ := HR5.out.c4; have g0 := HR5.out.fz 0; have g1 := HR5.out.fz 1; have g2 := HR5.out.fz 2; have g3 := HR5.out.fz 3)
                    rw [Exit.noGoto_ret]
                    obtain ⟨f0, f1, f2, f3⟩ := (HR5.out.put4 (.int .u8 pk) (.int .i64 pa) (.int .i64 pb) (.int .i64 pc)).c4
                    refine bodyPost_ret (by simp [results, Tryz.results51, go_sem, f0, f1, f2, f3]; try rfl) rfl ?_
                    exact ⟨by rw [HFIN.out, HF.out]; rfl, put4_below (B5.out.alloc B5.out.size _) (by omega) _ _ _ _⟩
                  | some i =>
                    have HSC2 : Hid (scanM M (px, py) (L.drop (k + 1)) = scanM M (px, py) L) := by unfold Hid; rw [← HSC.out, HDR.out, scanM_on ho]
                    rw [atV_some ho] at HAu
                    unfold encTV at HAu
                    dsimp only at HAu
                    clear ho
                    have HTBs : Hid (TB ≤ ws.heap.size) := by have h1 := HT3.out.lt; have h2 := HBs.out.size; unfold Hid; omega
                    have HTBa : Hid (TB ≤ (ws.alloc (.cells #[.int .i64 ua, .int .i64 ub, .int .i64 uc] 45)).heap.size) := Nat.le_trans HTBs.out (by simp)
                    go_wp2_with (go_at_call 113; with_reducible refine (HAu.out _ HBX.out).mono ?_; rintro r w5 ⟨rfl, hb5⟩; have B5 := Lib.hid (((HBs.out.alloc HTBs.out (.cells #[.int .i64 ua, .int .i64 ub, .int .i64 uc] 45)).trans (hb5.mono HTBa.out)).alloc (Nat.le_trans HTBa.out hb5.size) (.cells #[.int .u8 0, .int .i64 0, .int .i64 0, .int .i64 0] 87)))
                    go_roundw
                    case rel => exact ⟨k + 1, by have := HKL.out; omega, (by rw [wrapS (by have := HLN.out; have := HKL.out; omega)]), HSC2.out, B5.out⟩
                    case measure => rw [wrapS (by have := HLN.out; have := HKL.out; omega)]; have := HKL.out; simp only [intOf]; omega
                · have hkl : k = L.length := by omega
                  subst hkl
                  have HF : Hid (scanM M (px, py) L = ⟨4, 0, 0, 0⟩) := by unfold Hid; rw [← HSC.out, List.drop_length]; rfl
                  obtain ⟨r0, r1, r2, r3⟩ := HRs.out.c4
                  have g0 := HRs.out.fz 0
                  have g1 := HRs.out.fz 1
                  have g2 := HRs.out.fz 2
                  have g3 := HRs.out.fz 3
                  clear hlt hk
                  go_wp2
                  rw [Exit.noGoto_ret]
                  obtain ⟨f0, f1, f2, f3⟩ := (HRs.out.put4 (.int .u8 4) (.int .i64 0) (.int .i64 0) (.int .i64 0)).c4
                  refine bodyPost_ret (by simp [results, Tryz.results51, go_sem, f0, f1, f2, f3]; try rfl) rfl ?_
                  exact ⟨by rw [HFIN.out, HF.out]; rfl, put4_below HWs.out (by omega) _ _ _ _⟩
            | some v =>
              have HOv := Lib.hid (H64.out _ _ _ hap)
              have HG2 : Hid (goM M (px, py) (L.length - (k + 1)) (ownT ub ua v) = goM M (px, py) L.length (ta, tb, tc)) := by unfold Hid; rw [← HG.out, show L.length - k = (L.length - (k + 1)) + 1 by have := HKL.out; omega, goM_on ho.out (by rw [hca, hcb, hap]), hca, hcb]
              have HOw := Lib.hid (ownT_ok HOv.out.1 HOv.out.2.1 HOv.out.2.2)
              have HOWN := Lib.hid (fun W => own3_walk ub ua v W)
              rw [hap] at HAPu
              simp only [Option.getD_some, Option.isSome_some] at HAPu
              generalize ownT ub ua v = un at *
              obtain ⟨na, nb, nc⟩ := un
              unfold encTV at HOWN
              dsimp only at HOWN
              clear hap ho hca hcb HG HOv
              go_wp2_with (go_at_call 113; with_reducible refine (HAu.out _ HWr.out).mono ?_; rintro r w5 ⟨rfl, hb5⟩; have B5 := Lib.hid ((HBr.out.trans (hb5.mono HTB.out)).alloc (Nat.le_trans HTB.out hb5.size) (.cells #[.int .u8 0, .int .i64 0, .int .i64 0, .int .i64 0] 87)); have T5 := ((HT.out.below hb5).al (.cells #[.int .u8 0, .int .i64 0, .int .i64 0, .int .i64 0] 87)); obtain ⟨x0, x1, x2⟩ := T5.c3)
              go_quiet (fail)
              have B6 := Lib.hid (below_drewNs B5.out nq)
              have B6w := Lib.hid (HB3.out.trans (B6.out.mono (by have := HS3.out; omega)))
              have T6 := Lib.hid (quiet_box T5 nq)
              go_wp2_with (first
                | (go_at_call 19; with_reducible refine (HAPu.out _ B6w.out).mono ?_; rintro r w6 ⟨rfl, rfl⟩)
                | (go_at_call 114; with_reducible refine (HOWN.out _).mono ?_; rintro r w7 ⟨rfl, hb7⟩; have T7 := Lib.hid (T6.out.below hb7); have B7 := Lib.hid (B6.out.trans (hb7.mono (Nat.le_trans (Nat.le_of_lt HT3.out.lt) B6.out.size))); obtain ⟨y0, y1, y2⟩ := T7.out.c3; have z0 := T7.out.fz 0; have z1 := T7.out.fz 1; have z2 := T7.out.fz 2))
              go_roundw
              case rel => exact ⟨k + 1, (na, nb, nc), by have := HKL.out; omega, (by rw [wrapS (by have := HLN.out; have := HKL.out; omega)]), T7.out.put3 _ _ _, HOw.out, HG2.out, put3_below B7.out (Nat.le_refl _) _ _ _⟩
              case measure => rw [wrapS (by have := HLN.out; have := HKL.out; omega)]; have := HKL.out; simp only [intOf]; omega
          · have hca : corT (ua, ub, uc) (1 + 1) = uc := rfl
            have hcb : corT (ua, ub, uc) 1 = ub := rfl
            have HAPu := Lib.hid (fun W hb => HAP.out W hb uc ub (by have := HOK.out; first | exact this.1 | exact this.2.1 | exact this.2.2) (by have := HOK.out; first | exact this.1 | exact this.2.1 | exact this.2.2))
            cases hap : M.ap uc ub with
            | none =>
              have HG2 : Hid (goM M (px, py) L.length (ta, tb, tc) = none) := by unfold Hid; rw [← HG.out, show L.length - k = (L.length - (k + 1)) + 1 by have := HKL.out; omega, goM_stop ho.out (by rw [hca, hcb, hap])]
              rw [hap] at HAPu
              simp only [Option.getD_none, Option.isSome_none] at HAPu
              have HFIN : Hid (findL M (px, py) s L = scanM M (px, py) L) := by unfold Hid; rw [HFL.out, HG2.out]; rfl
              clear hap ho hca hcb HG HG2 HFL
              go_wp2_with (go_at_call 113; with_reducible refine (HAu.out _ HWr.out).mono ?_; rintro r w5 ⟨rfl, hb5⟩; have B5 := Lib.hid ((HBr.out.trans (hb5.mono HTB.out)).alloc (Nat.le_trans HTB.out hb5.size) (.cells #[.int .u8 0, .int .i64 0, .int .i64 0, .int .i64 0] 87)); have T5 := ((HT.out.below hb5).al (.cells #[.int .u8 0, .int .i64 0, .int .i64 0, .int .i64 0] 87)); obtain ⟨x0, x1, x2⟩ := T5.c3)
              go_quiet (fail)
              have B6 := Lib.hid (below_drewNs B5.out nq)
              have B6w := Lib.hid (HB3.out.trans (B6.out.mono (by have := HS3.out; omega)))
              go_wp2_with (go_at_call 19; with_reducible refine (HAPu.out _ B6w.out).mono ?_; rintro r w6 ⟨rfl, rfl⟩)
              have HBl := B6
              clear x0 x1 x2 T5
              go_loopw [83] (fun s83 wr => ∃ k : Nat, k ≤ L.length ∧ s83 = .int .i64 k ∧ Hid (scanM M (px, py) (L.drop k) = scanM M (px, py) L) ∧ Hid (Below TB W3 wr)) (fun s83 _ => L.length - (intOf s83).toNat)
              case atStart => exact ⟨0, Nat.zero_le _, rfl, rfl, HBl.out⟩
              case round =>
                rename World => ws
                obtain ⟨k, hk, rfl, HSC, HBs⟩ := hrel
                have HWs := Lib.hid (HB3.out.trans (HBs.out.mono (by have := HS3.out; omega)))
                have HRs := Lib.hid (HR3.out.low HBs.out HS3.out.2)
                have HPs := Lib.hid (HP3.out.low HBs.out (by have := HS3.out; omega))
                by_cases hlt : k < L.length
                · obtain ⟨_, e, _, t0, t1, t2⟩ := (HK3.out.low HBs.out HS3.out.1).tri hlt
                  cases e
                  have HDR := Lib.hid (drop_at hlt)
                  have HKL := Lib.hid hlt
                  generalize L.getD k (0, 0, 0) = u at HDR t0 t1 t2
                  obtain ⟨ua, ub, uc⟩ := u
                  dsimp only at t0 t1 t2
                  have HAu := Lib.hid (fun W hb => HAT.out W hb (ua, ub, uc))
                  have hbx : Below w.heap.size w (ws.alloc (.cells #[.int .i64 ua, .int .i64 ub, .int .i64 uc] 45)) := HWs.out.alloc HWs.out.size _
                  have HBX := Lib.hid hbx
                  obtain ⟨p0, p1⟩ := HPs.out.c2
                  have q0 := fun o => cell_al p0 o
                  have q1 := fun o => cell_al p1 o
                  cases ho : outM M (px, py) (ua, ub, uc) with
                  | none =>
                    have HF : Hid (scanM M (px, py) L = placeM M (px, py) (ua, ub, uc)) := by unfold Hid; rw [← HSC.out, HDR.out, scanM_here ho]
                    rw [atV_none ho] at HAu
                    generalize placeM M (px, py) (ua, ub, uc) = PL at *
                    unfold encTV plcV at HAu
                    obtain ⟨pk, pa, pb, pc⟩ := PL
                    dsimp only at HAu
                    clear ho
                    go_wp2_with (go_at_call 113; with_reducible refine (HAu.out _ HBX.out).mono ?_; rintro r w5 ⟨rfl, hb5⟩; have B5 := Lib.hid (HBX.out.trans (hb5.mono HBX.out.size)); have HR5 := Lib.hid (((HRs.out.al _).below hb5).al (.cells #[.int .u8 pk, .int .i64 pa, .int .i64 pb, .int .i64 pc] 87)); obtain ⟨r0, r1, r2, r3⟩ := HR5.out.c4; have g0 := HR5.out.fz 0; have g1 := HR5.out.fz 1; have g2 := HR5.out.fz 2; have g3 := HR5.out.fz 3)
                    rw [Exit.noGoto_ret]
                    obtain ⟨f0, f1, f2, f3⟩ := (HR5.out.put4 (.int .u8 pk) (.int .i64 pa) (.int .i64 pb) (.int .i64 pc)).c4
                    refine bodyPost_ret (by simp [results, Tryz.results51, go_sem, f0, f1, f2, f3]; try rfl) rfl ?_
                    exact ⟨by rw [HFIN.out, HF.out]; rfl, put4_below (B5.out.alloc B5.out.size _) (by omega) _ _ _ _⟩
                  | some i =>
                    have HSC2 : Hid (scanM M (px, py) (L.drop (k + 1)) = scanM M (px, py) L) := by unfold Hid; rw [← HSC.out, HDR.out, scanM_on ho]
                    rw [atV_some ho] at HAu
                    unfold encTV at HAu
                    dsimp only at HAu
                    clear ho
                    have HTBs : Hid (TB ≤ ws.heap.size) := by have h1 := HT3.out.lt; have h2 := HBs.out.size; unfold Hid; omega
                    have HTBa : Hid (TB ≤ (ws.alloc (.cells #[.int .i64 ua, .int .i64 ub, .int .i64 uc] 45)).heap.size) := Nat.le_trans HTBs.out (by simp)
                    go_wp2_with (go_at_call 113; with_reducible refine (HAu.out _ HBX.out).mono ?_; rintro r w5 ⟨rfl, hb5⟩; have B5 := Lib.hid (((HBs.out.alloc HTBs.out (.cells #[.int .i64 ua, .int .i64 ub, .int .i64 uc] 45)).trans (hb5.mono HTBa.out)).alloc (Nat.le_trans HTBa.out hb5.size) (.cells #[.int .u8 0, .int .i64 0, .int .i64 0, .int .i64 0] 87)))
                    go_roundw
                    case rel => exact ⟨k + 1, by have := HKL.out; omega, (by rw [wrapS (by have := HLN.out; have := HKL.out; omega)]), HSC2.out, B5.out⟩
                    case measure => rw [wrapS (by have := HLN.out; have := HKL.out; omega)]; have := HKL.out; simp only [intOf]; omega
                · have hkl : k = L.length := by omega
                  subst hkl
                  have HF : Hid (scanM M (px, py) L = ⟨4, 0, 0, 0⟩) := by unfold Hid; rw [← HSC.out, List.drop_length]; rfl
                  obtain ⟨r0, r1, r2, r3⟩ := HRs.out.c4
                  have g0 := HRs.out.fz 0
                  have g1 := HRs.out.fz 1
                  have g2 := HRs.out.fz 2
                  have g3 := HRs.out.fz 3
                  clear hlt hk
                  go_wp2
                  rw [Exit.noGoto_ret]
                  obtain ⟨f0, f1, f2, f3⟩ := (HRs.out.put4 (.int .u8 4) (.int .i64 0) (.int .i64 0) (.int .i64 0)).c4
                  refine bodyPost_ret (by simp [results, Tryz.results51, go_sem, f0, f1, f2, f3]; try rfl) rfl ?_
                  exact ⟨by rw [HFIN.out, HF.out]; rfl, put4_below HWs.out (by omega) _ _ _ _⟩
            | some v =>
              have HOv := Lib.hid (H64.out _ _ _ hap)
              have HG2 : Hid (goM M (px, py) (L.length - (k + 1)) (ownT uc ub v) = goM M (px, py) L.length (ta, tb, tc)) := by unfold Hid; rw [← HG.out, show L.length - k = (L.length - (k + 1)) + 1 by have := HKL.out; omega, goM_on ho.out (by rw [hca, hcb, hap]), hca, hcb]
              have HOw := Lib.hid (ownT_ok HOv.out.1 HOv.out.2.1 HOv.out.2.2)
              have HOWN := Lib.hid (fun W => own3_walk uc ub v W)
              rw [hap] at HAPu
              simp only [Option.getD_some, Option.isSome_some] at HAPu
              generalize ownT uc ub v = un at *
              obtain ⟨na, nb, nc⟩ := un
              unfold encTV at HOWN
              dsimp only at HOWN
              clear hap ho hca hcb HG HOv
              go_wp2_with (go_at_call 113; with_reducible refine (HAu.out _ HWr.out).mono ?_; rintro r w5 ⟨rfl, hb5⟩; have B5 := Lib.hid ((HBr.out.trans (hb5.mono HTB.out)).alloc (Nat.le_trans HTB.out hb5.size) (.cells #[.int .u8 0, .int .i64 0, .int .i64 0, .int .i64 0] 87)); have T5 := ((HT.out.below hb5).al (.cells #[.int .u8 0, .int .i64 0, .int .i64 0, .int .i64 0] 87)); obtain ⟨x0, x1, x2⟩ := T5.c3)
              go_quiet (fail)
              have B6 := Lib.hid (below_drewNs B5.out nq)
              have B6w := Lib.hid (HB3.out.trans (B6.out.mono (by have := HS3.out; omega)))
              have T6 := Lib.hid (quiet_box T5 nq)
              go_wp2_with (first
                | (go_at_call 19; with_reducible refine (HAPu.out _ B6w.out).mono ?_; rintro r w6 ⟨rfl, rfl⟩)
                | (go_at_call 114; with_reducible refine (HOWN.out _).mono ?_; rintro r w7 ⟨rfl, hb7⟩; have T7 := Lib.hid (T6.out.below hb7); have B7 := Lib.hid (B6.out.trans (hb7.mono (Nat.le_trans (Nat.le_of_lt HT3.out.lt) B6.out.size))); obtain ⟨y0, y1, y2⟩ := T7.out.c3; have z0 := T7.out.fz 0; have z1 := T7.out.fz 1; have z2 := T7.out.fz 2))
              go_roundw
              case rel => exact ⟨k + 1, (na, nb, nc), by have := HKL.out; omega, (by rw [wrapS (by have := HLN.out; have := HKL.out; omega)]), T7.out.put3 _ _ _, HOw.out, HG2.out, put3_below B7.out (Nat.le_refl _) _ _ _⟩
              case measure => rw [wrapS (by have := HLN.out; have := HKL.out; omega)]; have := HKL.out; simp only [intOf]; omega
          · have hca : corT (ua, ub, uc) (2 + 1) = ua := rfl
            have hcb : corT (ua, ub, uc) 2 = uc := rfl
            have HAPu := Lib.hid (fun W hb => HAP.out W hb ua uc (by have := HOK.out; first | exact this.1 | exact this.2.1 | exact this.2.2) (by have := HOK.out; first | exact this.1 | exact this.2.1 | exact this.2.2))
            cases hap : M.ap ua uc with
            | none =>
              have HG2 : Hid (goM M (px, py) L.length (ta, tb, tc) = none) := by unfold Hid; rw [← HG.out, show L.length - k = (L.length - (k + 1)) + 1 by have := HKL.out; omega, goM_stop ho.out (by rw [hca, hcb, hap])]
              rw [hap] at HAPu
              simp only [Option.getD_none, Option.isSome_none] at HAPu
              have HFIN : Hid (findL M (px, py) s L = scanM M (px, py) L) := by unfold Hid; rw [HFL.out, HG2.out]; rfl
              clear hap ho hca hcb HG HG2 HFL
              go_wp2_with (go_at_call 113; with_reducible refine (HAu.out _ HWr.out).mono ?_; rintro r w5 ⟨rfl, hb5⟩; have B5 := Lib.hid ((HBr.out.trans (hb5.mono HTB.out)).alloc (Nat.le_trans HTB.out hb5.size) (.cells #[.int .u8 0, .int .i64 0, .int .i64 0, .int .i64 0] 87)); have T5 := ((HT.out.below hb5).al (.cells #[.int .u8 0, .int .i64 0, .int .i64 0, .int .i64 0] 87)); obtain ⟨x0, x1, x2⟩ := T5.c3)
              go_quiet (fail)
              have B6 := Lib.hid (below_drewNs B5.out nq)
              have B6w := Lib.hid (HB3.out.trans (B6.out.mono (by have := HS3.out; omega)))
              go_wp2_with (go_at_call 19; with_reducible refine (HAPu.out _ B6w.out).mono ?_; rintro r w6 ⟨rfl, rfl⟩)
              have HBl := B6
              clear x0 x1 x2 T5
              go_loopw [83] (fun s83 wr => ∃ k : Nat, k ≤ L.length ∧ s83 = .int .i64 k ∧ Hid (scanM M (px, py) (L.drop k) = scanM M (px, py) L) ∧ Hid (Below TB W3 wr)) (fun s83 _ => L.length - (intOf s83).toNat)
              case atStart => exact ⟨0, Nat.zero_le _, rfl, rfl, HBl.out⟩
              case round =>
                rename World => ws
                obtain ⟨k, hk, rfl, HSC, HBs⟩ := hrel
                have HWs := Lib.hid (HB3.out.trans (HBs.out.mono (by have := HS3.out; omega)))
                have HRs := Lib.hid (HR3.out.low HBs.out HS3.out.2)
                have HPs := Lib.hid (HP3.out.low HBs.out (by have := HS3.out; omega))
                by_cases hlt : k < L.length
                · obtain ⟨_, e, _, t0, t1, t2⟩ := (HK3.out.low HBs.out HS3.out.1).tri hlt
                  cases e
                  have HDR := Lib.hid (drop_at hlt)
                  have HKL := Lib.hid hlt
                  generalize L.getD k (0, 0, 0) = u at HDR t0 t1 t2
                  obtain ⟨ua, ub, uc⟩ := u
                  dsimp only at t0 t1 t2
                  have HAu := Lib.hid (fun W hb => HAT.out W hb (ua, ub, uc))
                  have hbx : Below w.heap.size w (ws.alloc (.cells #[.int .i64 ua, .int .i64 ub, .int .i64 uc] 45)) := HWs.out.alloc HWs.out.size _
                  have HBX := Lib.hid hbx
                  obtain ⟨p0, p1⟩ := HPs.out.c2
                  have q0 := fun o => cell_al p0 o
                  have q1 := fun o => cell_al p1 o
                  cases ho : outM M (px, py) (ua, ub, uc) with
                  | none =>
                    have HF : Hid (scanM M (px, py) L = placeM M (px, py) (ua, ub, uc)) := by unfold Hid; rw [← HSC.out, HDR.out, scanM_here ho]
                    rw [atV_none ho] at HAu
                    generalize placeM M (px, py) (ua, ub, uc) = PL at *
                    unfold encTV plcV at HAu
                    obtain ⟨pk, pa, pb, pc⟩ := PL
                    dsimp only at HAu
                    clear ho
                    go_wp2_with (go_at_call 113; with_reducible refine (HAu.out _ HBX.out).mono ?_; rintro r w5 ⟨rfl, hb5⟩; have B5 := Lib.hid (HBX.out.trans (hb5.mono HBX.out.size)); have HR5 := Lib.hid (((HRs.out.al _).below hb5).al (.cells #[.int .u8 pk, .int .i64 pa, .int .i64 pb, .int .i64 pc] 87)); obtain ⟨r0, r1, r2, r3⟩ := HR5.out.c4; have g0 := HR5.out.fz 0; have g1 := HR5.out.fz 1; have g2 := HR5.out.fz 2; have g3 := HR5.out.fz 3)
                    rw [Exit.noGoto_ret]
                    obtain ⟨f0, f1, f2, f3⟩ := (HR5.out.put4 (.int .u8 pk) (.int .i64 pa) (.int .i64 pb) (.int .i64 pc)).c4
                    refine bodyPost_ret (by simp [results, Tryz.results51, go_sem, f0, f1, f2, f3]; try rfl) rfl ?_
                    exact ⟨by rw [HFIN.out, HF.out]; rfl, put4_below (B5.out.alloc B5.out.size _) (by omega) _ _ _ _⟩
                  | some i =>
                    have HSC2 : Hid (scanM M (px, py) (L.drop (k + 1)) = scanM M (px, py) L) := by unfold Hid; rw [← HSC.out, HDR.out, scanM_on ho]
                    rw [atV_some ho] at HAu
                    unfold encTV at HAu
                    dsimp only at HAu
                    clear ho
                    have HTBs : Hid (TB ≤ ws.heap.size) := by have h1 := HT3.out.lt; have h2 := HBs.out.size; unfold Hid; omega
                    have HTBa : Hid (TB ≤ (ws.alloc (.cells #[.int .i64 ua, .int .i64 ub, .int .i64 uc] 45)).heap.size) := Nat.le_trans HTBs.out (by simp)
                    go_wp2_with (go_at_call 113; with_reducible refine (HAu.out _ HBX.out).mono ?_; rintro r w5 ⟨rfl, hb5⟩; have B5 := Lib.hid (((HBs.out.alloc HTBs.out (.cells #[.int .i64 ua, .int .i64 ub, .int .i64 uc] 45)).trans (hb5.mono HTBa.out)).alloc (Nat.le_trans HTBa.out hb5.size) (.cells #[.int .u8 0, .int .i64 0, .int .i64 0, .int .i64 0] 87)))
                    go_roundw
                    case rel => exact ⟨k + 1, by have := HKL.out; omega, (by rw [wrapS (by have := HLN.out; have := HKL.out; omega)]), HSC2.out, B5.out⟩
                    case measure => rw [wrapS (by have := HLN.out; have := HKL.out; omega)]; have := HKL.out; simp only [intOf]; omega
                · have hkl : k = L.length := by omega
                  subst hkl
                  have HF : Hid (scanM M (px, py) L = ⟨4, 0, 0, 0⟩) := by unfold Hid; rw [← HSC.out, List.drop_length]; rfl
                  obtain ⟨r0, r1, r2, r3⟩ := HRs.out.c4
                  have g0 := HRs.out.fz 0
                  have g1 := HRs.out.fz 1
                  have g2 := HRs.out.fz 2
                  have g3 := HRs.out.fz 3
                  clear hlt hk
                  go_wp2
                  rw [Exit.noGoto_ret]
                  obtain ⟨f0, f1, f2, f3⟩ := (HRs.out.put4 (.int .u8 4) (.int .i64 0) (.int .i64 0) (.int .i64 0)).c4
                  refine bodyPost_ret (by simp [results, Tryz.results51, go_sem, f0, f1, f2, f3]; try rfl) rfl ?_
                  exact ⟨by rw [HFIN.out, HF.out]; rfl, put4_below HWs.out (by omega) _ _ _ _⟩
            | some v =>
              have HOv := Lib.hid (H64.out _ _ _ hap)
              have HG2 : Hid (goM M (px, py) (L.length - (k + 1)) (ownT ua uc v) = goM M (px, py) L.length (ta, tb, tc)) := by unfold Hid; rw [← HG.out, show L.length - k = (L.length - (k + 1)) + 1 by have := HKL.out; omega, goM_on ho.out (by rw [hca, hcb, hap]), hca, hcb]
              have HOw := Lib.hid (ownT_ok HOv.out.1 HOv.out.2.1 HOv.out.2.2)
              have HOWN := Lib.hid (fun W => own3_walk ua uc v W)
              rw [hap] at HAPu
              simp only [Option.getD_some, Option.isSome_some] at HAPu
              generalize ownT ua uc v = un at *
              obtain ⟨na, nb, nc⟩ := un
              unfold encTV at HOWN
              dsimp only at HOWN
              clear hap ho hca hcb HG HOv
              go_wp2_with (go_at_call 113; with_reducible refine (HAu.out _ HWr.out).mono ?_; rintro r w5 ⟨rfl, hb5⟩; have B5 := Lib.hid ((HBr.out.trans (hb5.mono HTB.out)).alloc (Nat.le_trans HTB.out hb5.size) (.cells #[.int .u8 0, .int .i64 0, .int .i64 0, .int .i64 0] 87)); have T5 := ((HT.out.below hb5).al (.cells #[.int .u8 0, .int .i64 0, .int .i64 0, .int .i64 0] 87)); obtain ⟨x0, x1, x2⟩ := T5.c3)
              go_quiet (fail)
              have B6 := Lib.hid (below_drewNs B5.out nq)
              have B6w := Lib.hid (HB3.out.trans (B6.out.mono (by have := HS3.out; omega)))
              have T6 := Lib.hid (quiet_box T5 nq)
              go_wp2_with (first
                | (go_at_call 19; with_reducible refine (HAPu.out _ B6w.out).mono ?_; rintro r w6 ⟨rfl, rfl⟩)
                | (go_at_call 114; with_reducible refine (HOWN.out _).mono ?_; rintro r w7 ⟨rfl, hb7⟩; have T7 := Lib.hid (T6.out.below hb7); have B7 := Lib.hid (B6.out.trans (hb7.mono (Nat.le_trans (Nat.le_of_lt HT3.out.lt) B6.out.size))); obtain ⟨y0, y1, y2⟩ := T7.out.c3; have z0 := T7.out.fz 0; have z1 := T7.out.fz 1; have z2 := T7.out.fz 2))
              go_roundw
              case rel => exact ⟨k + 1, (na, nb, nc), by have := HKL.out; omega, (by rw [wrapS (by have := HLN.out; have := HKL.out; omega)]), T7.out.put3 _ _ _, HOw.out, HG2.out, put3_below B7.out (Nat.le_refl _) _ _ _⟩
              case measure => rw [wrapS (by have := HLN.out; have := HKL.out; omega)]; have := HKL.out; simp only [intOf]; omega
      · have hkl : k = L.length := by omega
        subst hkl
        have HG2 : Hid (goM M (px, py) L.length (ta, tb, tc) = none) := by unfold Hid; rw [← HG.out, Nat.sub_self]; rfl
        have HFIN : Hid (findL M (px, py) s L = scanM M (px, py) L) := by unfold Hid; rw [HFL.out, HG2.out]; rfl
        clear hlt hk HG HG2 HFL p0 p1 t0 t1 t2
        have HBl := HBr
        go_wp2
        go_loopw [83] (fun s83 wr => ∃ k : Nat, k ≤ L.length ∧ s83 = .int .i64 k ∧ Hid (scanM M (px, py) (L.drop k) = scanM M (px, py) L) ∧ Hid (Below TB W3 wr)) (fun s83 _ => L.length - (intOf s83).toNat)
        case atStart => exact ⟨0, Nat.zero_le _, rfl, rfl, HBl.out⟩
        case round =>
          rename World => ws
          obtain ⟨k, hk, rfl, HSC, HBs⟩ := hrel
          have HWs := Lib.hid (HB3.out.trans (HBs.out.mono (by have := HS3.out; omega)))
          have HRs := Lib.hid (HR3.out.low HBs.out HS3.out.2)
          have HPs := Lib.hid (HP3.out.low HBs.out (by have := HS3.out; omega))
          by_cases hlt : k < L.length
          · obtain ⟨_, e, _, t0, t1, t2⟩ := (HK3.out.low HBs.out HS3.out.1).tri hlt
            cases e
            have HDR := Lib.hid (drop_at hlt)
            have HKL := Lib.hid hlt
            generalize L.getD k (0, 0, 0) = u at HDR t0 t1 t2
            obtain ⟨ua, ub, uc⟩ := u
            dsimp only at t0 t1 t2
            have HAu := Lib.hid (fun W hb => HAT.out W hb (ua, ub, uc))
            have hbx : Below w.heap.size w (ws.alloc (.cells #[.int .i64 ua, .int .i64 ub, .int .i64 uc] 45)) := HWs.out.alloc HWs.out.size _
            have HBX := Lib.hid hbx
            obtain ⟨p0, p1⟩ := HPs.out.c2
            have q0 := fun o => cell_al p0 o
            have q1 := fun o => cell_al p1 o
            cases ho : outM M (px, py) (ua, ub, uc) with
            | none =>
              have HF : Hid (scanM M (px, py) L = placeM M (px, py) (ua, ub, uc)) := by unfold Hid; rw [← HSC.out, HDR.out, scanM_here ho]
              rw [atV_none ho] at HAu
              generalize placeM M (px, py) (ua, ub, uc) = PL at *
              unfold encTV plcV at HAu
              obtain ⟨pk, pa, pb, pc⟩ := PL
              dsimp only at HAu
              clear ho
              go_wp2_with (go_at_call 113; with_reducible refine (HAu.out _ HBX.out).mono ?_; rintro r w5 ⟨rfl, hb5⟩; have B5 := Lib.hid (HBX.out.trans (hb5.mono HBX.out.size)); have HR5 := Lib.hid (((HRs.out.al _).below hb5).al (.cells #[.int .u8 pk, .int .i64 pa, .int .i64 pb, .int .i64 pc] 87)); obtain ⟨r0, r1, r2, r3⟩ := HR5.out.c4; have g0 := HR5.out.fz 0; have g1 := HR5.out.fz 1; have g2 := HR5.out.fz 2; have g3 := HR5.out.fz 3)
              rw [Exit.noGoto_ret]
              obtain ⟨f0, f1, f2, f3⟩ := (HR5.out.put4 (.int .u8 pk) (.int .i64 pa) (.int .i64 pb) (.int .i64 pc)).c4
              refine bodyPost_ret (by simp [results, Tryz.results51, go_sem, f0, f1, f2, f3]; try rfl) rfl ?_
              exact ⟨by rw [HFIN.out, HF.out]; rfl, put4_below (B5.out.alloc B5.out.size _) (by omega) _ _ _ _⟩
            | some i =>
              have HSC2 : Hid (scanM M (px, py) (L.drop (k + 1)) = scanM M (px, py) L) := by unfold Hid; rw [← HSC.out, HDR.out, scanM_on ho]
              rw [atV_some ho] at HAu
              unfold encTV at HAu
              dsimp only at HAu
              clear ho
              have HTBs : Hid (TB ≤ ws.heap.size) := by have h1 := HT3.out.lt; have h2 := HBs.out.size; unfold Hid; omega
              have HTBa : Hid (TB ≤ (ws.alloc (.cells #[.int .i64 ua, .int .i64 ub, .int .i64 uc] 45)).heap.size) := Nat.le_trans HTBs.out (by simp)
              go_wp2_with (go_at_call 113; with_reducible refine (HAu.out _ HBX.out).mono ?_; rintro r w5 ⟨rfl, hb5⟩; have B5 := Lib.hid (((HBs.out.alloc HTBs.out (.cells #[.int .i64 ua, .int .i64 ub, .int .i64 uc] 45)).trans (hb5.mono HTBa.out)).alloc (Nat.le_trans HTBa.out hb5.size) (.cells #[.int .u8 0, .int .i64 0, .int .i64 0, .int .i64 0] 87)))
              go_roundw
              case rel => exact ⟨k + 1, by have := HKL.out; omega, (by rw [wrapS (by have := HLN.out; have := HKL.out; omega)]), HSC2.out, B5.out⟩
              case measure => rw [wrapS (by have := HLN.out; have := HKL.out; omega)]; have := HKL.out; simp only [intOf]; omega
          · have hkl : k = L.length := by omega
            subst hkl
            have HF : Hid (scanM M (px, py) L = ⟨4, 0, 0, 0⟩) := by unfold Hid; rw [← HSC.out, List.drop_length]; rfl
            obtain ⟨r0, r1, r2, r3⟩ := HRs.out.c4
            have g0 := HRs.out.fz 0
            have g1 := HRs.out.fz 1
            have g2 := HRs.out.fz 2
            have g3 := HRs.out.fz 3
            clear hlt hk
            go_wp2
            rw [Exit.noGoto_ret]
            obtain ⟨f0, f1, f2, f3⟩ := (HRs.out.put4 (.int .u8 4) (.int .i64 0) (.int .i64 0) (.int .i64 0)).c4
            refine bodyPost_ret (by simp [results, Tryz.results51, go_sem, f0, f1, f2, f3]; try rfl) rfl ?_
            exact ⟨by rw [HFIN.out, HF.out]; rfl, put4_below HWs.out (by omega) _ _ _ _⟩

end Go.Proofs.YtdoaniccefdkaaaGreatDoor
