/- Part of the proof. No conditions. -/
import Derived.Test.YtdoaniccefdkaaaGreatDoorZQ

set_option linter.all false
/- remove.Point where an ear may not be made: all is put back. -/
namespace Go.Proofs.YtdoaniccefdkaaaGreatDoor
open Go.RowKit Tvf Go.Maps Go.WideMaps

set_option maxRecDepth 100000 in
set_option maxHeartbeats 8000000 in
theorem rpoint_refused {w0 w : World} {mb n : Nat} {M : MeshM} {F : Nat → Prop} (h : MB w0 w mb n M F) (h64 : ∀ p, p ∈ M.P → pt64 p) (hs : Sound M) (hl : M.P.length ≤ 1048576) (hn : n ≤ 100000) {v : Int} (hv : i64ok v) (hx : hasM M v = true) {k : Nat} (hk : (spokesL M v).length = k + 1) (hk6 : k ≤ 100000) {R : List Int} (hR : ringR M v = R) (h3 : 3 ≤ R.length) (hRl : R.length ≤ 10000) (hf : R.any (fixB M v) = false)
    (hok : ∀ j, j < R.length - 3 → EarOk M (esRun M ⟨R, []⟩ j).R) {E : List Tri3} (hE : earsL M R = E) {MK MZ : MeshM} (hMK : killL M (wheelL v R) = MK) {ta tb tc : Int} {E2 : List Tri3} (hE2 : E = (ta, tb, tc) :: E2) (hcode : makeCode MK ta tb tc = 14) (hMZ : foldM MK (wheelL v R) = MZ) :
    Calls Tryz.prog 60 #[.pointer (some ⟨mb, 0, none⟩), .int .i64 v] w fun r w' => r = .returned (.int .i64 14) ∧ ∃ G, MB w0 w' mb (n + 3 * R.length + 3 + 3 * R.length) MZ G ∧ Stay F w w' ∧ ∀ i, G i → F i ∨ w.heap.size ≤ i := by
  have HP := Lib.hid (pt_box h.at_ hx)
  have HS := Lib.hid (sp_box h.at_ hv hs hl (by omega) hk)
  have HR := Lib.hid (ring_box h hv hs hl (by omega) (by omega) hR (by omega))
  have HFX := Lib.hid (fixed_box h hv (R := R) (by omega) hf)
  have HEA := Lib.hid (ears_box h (v := v) h64 h3 (by omega) hok hE)
  have HEL : Hid (E.length ≤ 10000) := by unfold Hid; rw [← hE, earsL_len]; omega
  obtain ⟨c1, c2⟩ := pbox_new w mb v 29 3
  have hkz : ¬((k + 1 : Nat) : Int) = 0 := by omega
  have H64 := Lib.hid h64
  have HSD := Lib.hid hs
  have HL := Lib.hid hl
  have HNN := Lib.hid hn
  have HV := Lib.hid hv
  have HRL : Hid (3 ≤ R.length ∧ R.length ≤ 10000) := ⟨h3, hRl⟩
  have HMK := Lib.hid hMK
  have HMKP : Hid (MK.P = M.P) := by unfold Hid; rw [← hMK, killL_P]
  have HMKS : Hid (Sound MK) := by unfold Hid; rw [← hMK]; exact killL_sound hs _
  have HCO : Hid (makeCode MK ta tb tc = 14) := hcode
  have HE2 := Lib.hid hE2
  have HMZ := Lib.hid hMZ
  have HW0 := Lib.hid h.keep.size
  generalize ptAt M v = pp at *
  clear h h64 hs hl hn hv hx hk hk6 hR h3 hRl hf hok hE hMK hMZ hcode hE2
  generalize k + 1 = k1 at *
  have q22 : ∀ (w : World) (a : Option Addr) (n c n' c' : Nat), (binOp .eql 72 (.slice a n c) (.slice none n' c')).run Tryz.prog w = .ok (.bool a.isNone) w := fun w a n c n' c' => Lib.run_eql_slice_nil w _ _ a n c n' c' Tryz.underlying72
  go_enter Tryz.func60, Tryz.ntmps60
  go_wp2_with (first
    | (go_at_call 48; with_reducible refine HP.out.mono ?_; rintro r w1 ⟨rfl, ⟨d1, d2⟩, b1⟩)
    | (go_at_call 84; with_reducible refine (HS.out _ (PBox.i (d1 _) (d2 _)) (Lib.hid (b1.out _))).mono ?_; rintro r w2 ⟨ad, cap, rfl, p2, b2⟩; obtain ⟨e1, e2⟩ := p2.o)
    | (go_at_call 62; with_reducible refine (HR.out _ (PBox.i e1 e2) b2).mono ?_; rintro r w3 ⟨g, capr, rfl, p3, b3, HRG3⟩; obtain ⟨f1, f2⟩ := p3.o)
    | (go_at_call 131; with_reducible refine (HFX.out _ _ _ (PBox.i f1 f2) b3 HRG3).mono ?_; rintro r w4 ⟨rfl, p4, b4, HRG4⟩; obtain ⟨g1, g2⟩ := p4.o)
    | (go_at_call 133; with_reducible refine (HEA.out _ _ _ (PBox.i g1 g2) b4 HRG4).mono ?_; rintro r w5 ⟨aE, cE, rfl, b5, HPI⟩))
  have HB5 := Lib.hid b5.out
  have HI64 := Lib.hid HRG4.out.i64
  clear HP HS HR HFX HEA c1 c2 d1 d2 b1 p2 e1 e2 b2 p3 f1 f2 b3 HRG3 p4 g1 g2 b4 HRG4 b5
  have HWW : Hid (w0.heap.size ≤ w5.heap.size) := Nat.le_trans HW0.out HB5.out.size
  go_loopw [56] (fun s56 wr => ∃ (j : Nat) (G : Nat → Prop), j ≤ R.length ∧ s56 = .int .i64 j ∧ Hid (PInv w0 w5 F mb w.heap.size (w.heap.size + 1) v (some ⟨g, 0, none⟩) R aE E wr (n + 3 * j) (killL M ((wheelL v R).take j)) G)) (fun s56 _ => R.length - (intOf s56).toNat)
  case atStart => exact ⟨0, F, Nat.zero_le _, rfl, HPI.out⟩
  case round =>
    obtain ⟨j, G, hj, rfl, HPJ⟩ := hrel
    by_cases hlt : j < R.length
    · have hltz : (j : Int) < (R.length : Int) := by omega
      have hL0 : 0 < R.length := by omega
      have hj1 := Nat.mod_lt (j + 1) hL0
      have HWT := Lib.hid (wheel_take v R hlt)
      have HRJ := Lib.hid hlt
      obtain ⟨_, _, q0⟩ := HPJ.out.c3 hlt
      have n0 := (HPJ.out.drew HWW.out).c3 hj1
      have HIJ : Hid (i64ok (R.getD j 0) ∧ i64ok (R.getD ((j + 1) % R.length) 0)) := ⟨HI64.out _ (getD_memI hlt), HI64.out _ (getD_memI hj1)⟩
      have HKL := Lib.hid ((HPJ.out.drew HWW.out).kill (by have := HNN.out; have := HRL.out; omega) HV.out HIJ.out.1 HIJ.out.2)
      have HC3 : Hid (∀ W n' M' G', Hid (PInv w0 w5 F mb w.heap.size (w.heap.size + 1) v (some ⟨g, 0, none⟩) R aE E W n' M' G') → W.cell? ⟨w.heap.size, 0, none⟩ = some (.pointer (some ⟨mb, 0, none⟩)) ∧ W.cell? ⟨w.heap.size + 1, 0, none⟩ = some (.int .i64 v) ∧ W.cell? ⟨g, (j + 1) % R.length, none⟩ = some (.int .i64 (R.getD ((j + 1) % R.length) 0))) := fun W n' M' G' hp => hp.out.c3 hj1
      rw [wheelT_eq] at HWT
      have hr1 : ((j : Int) + 1).tmod (R.length : Int) = (((j + 1) % R.length : Nat) : Int) := by
        have := mod_at (k := j) (s := 1) (n := R.length) (by have := HRL.out; omega)
        rw [show wrap64 ((j : Int) + ((1 : Nat) : Int)) = (j : Int) + 1 by have := HRL.out; unfold wrap64; omega] at this; exact this
      have hw1 : IntKind.i64.wrap ((j : Int) + 1) = (j : Int) + 1 := wrap_smJ (by omega) (by have := HRL.out; omega)
      have hw2 : IntKind.i64.wrap (((j + 1) % R.length : Nat) : Int) = (((j + 1) % R.length : Nat) : Int) := wrap_smJ (by omega) (by have := HRL.out; omega)
      have hz1 : (0 : Int) ≤ (((j + 1) % R.length : Nat) : Int) := by omega
      have hz2 : (((j + 1) % R.length : Nat) : Int) < (R.length : Int) := by omega
      have hnn : ¬R.length = 0 := by omega
      have hnz : ¬(R.length : Int) = 0 := by omega
      generalize R.getD j 0 = rb at *
      generalize R.getD ((j + 1) % R.length) 0 = rc at *
      generalize (j + 1) % R.length = j1 at *
      go_wp2
      go_region_held3 (fun w' => w'.cell? ⟨w.heap.size, 0, none⟩ = some (.pointer (some ⟨mb, 0, none⟩)) ∧ w'.cell? ⟨w.heap.size + 1, 0, none⟩ = some (.int .i64 v) ∧ w'.cell? ⟨g, j1, none⟩ = some (.int .i64 rc)) (first | with_reducible exact n0 | with_reducible exact n1)
        (first | (go_at_call 29; with_reducible refine HKL.out.mono ?_; rintro r w6 ⟨⟨kk, rfl⟩, G6, HP6⟩; have n1 := HC3.out _ _ _ _ HP6))
      clear n0 n1 hr1 hw1 hw2 hz1 hz2 hnn hnz q0 hltz
      have HP7 : Hid (PInv w0 w5 F mb w.heap.size (w.heap.size + 1) v (some ⟨g, 0, none⟩) R aE E w6 (n + 3 * (j + 1)) (killL M ((wheelL v R).take (j + 1))) G6) := by
        unfold Hid; rw [HWT.out, killL_snoc]; exact HP6.out
      go_wp2
      go_roundw
      case rel => exact ⟨j + 1, G6, by have := HRJ.out; omega, by (first | rfl | rw [wrapJ (by have := HRL.out; have := HRJ.out; omega)]), HP7.out⟩
      case measure => have := HRL.out; have := HRJ.out; first | (simp [intOf]; omega) | (rw [wrapJ (by omega)]; simp [intOf]; omega)
    · have e : j = R.length := by omega
      subst e
      have HPK : Hid (PInv w0 w5 F mb w.heap.size (w.heap.size + 1) v (some ⟨g, 0, none⟩) R aE E wr (n + 3 * R.length) MK G) := by
        have := HPJ.out
        rw [← wheel_len v R, List.take_length, HMK.out, wheel_len] at this
        exact this
      clear hlt hj HPJ HMK HPI HI64
      go_wp2
      obtain ⟨wo, rfl⟩ : ∃ x, x = wr := ⟨_, rfl⟩
      have HE0 : Hid (Edg wo.heap.size wo G (.slice none 0 0) []) := Edg.nil HPK.out.m.at_.flt
      have HE1 : Hid (0 < E.length ∧ E.getD 0 (0, 0, 0) = (ta, tb, tc)) := by unfold Hid; rw [HE2.out]; simp
      go_loopw [12, 76] (fun s12 s76 wr => s12 = .slice none 0 0 ∧ s76 = .int .i64 0 ∧ wr = wo) (fun _ _ _ => 0)
      case atStart => exact ⟨rfl, rfl, rfl⟩
      case round =>
        obtain ⟨rfl, rfl, rfl⟩ := hrel
        have hltz : (0 : Int) < (E.length : Int) := by have := HE1.out.1; omega
        obtain ⟨ge, ee, _, q0, q1, q2⟩ := HPK.out.tr.tri HE1.out.1
        cases ee
        rw [HE1.out.2] at q0 q1 q2
        dsimp only [Nat.zero_mul, Nat.zero_add] at q0 q1 q2
        have HPJ1 := Lib.hid (HPK.out.al HWW.out (.cells #[.int .i64 ta, .int .i64 tb, .int .i64 tc] 45))
        have HMA : Hid (Calls Tryz.prog 28 #[.pointer (some ⟨mb, 0, none⟩), .int .i64 ta, .int .i64 tb, .int .i64 tc] (wr.alloc (.cells #[.int .i64 ta, .int .i64 tb, .int .i64 tc] 45)) fun r w' => r = .returned (.int .i64 14) ∧ ∃ H', Hid (PInv w0 w5 F mb w.heap.size (w.heap.size + 1) v (some ⟨g, 0, none⟩) R (some ⟨ge, 0, none⟩) E w' (n + 3 * R.length + 3) MK H')) := by
          refine (HPJ1.out.make (by rw [HMKP.out]; exact H64.out) (by rw [HMKP.out]; exact HL.out) (by have := HNN.out; have := HRL.out; omega) ta tb tc).mono ?_
          rintro r w' ⟨rfl, H', hp, _, _⟩
          rw [makeR_no (by rw [HCO.out]; decide)] at hp
          exact ⟨by rw [HCO.out], H', hp⟩
        obtain ⟨m0, _⟩ := HPJ1.out.bx.o
        clear HPJ1 q22
        go_wp2_with (go_at_call 28; with_reducible refine HMA.out.mono ?_; rintro r w6 ⟨rfl, H6, HP6⟩)
        clear m0 q0 q1 q2 hltz HMA
        go_loopw [94] (fun s94 wx => s94 = .int .i64 0 ∧ wx = w6) (fun _ _ => 0)
        case atStart => exact ⟨rfl, rfl⟩
        case round =>
          obtain ⟨rfl, rfl⟩ := hrel
          go_wp2
          go_loopw [109] (fun s109 wy => ∃ (j : Nat) (H : Nat → Prop), j ≤ R.length ∧ s109 = .int .i64 j ∧ Hid (PInv w0 w5 F mb w.heap.size (w.heap.size + 1) v (some ⟨g, 0, none⟩) R (some ⟨ge, 0, none⟩) E wy (n + 3 * R.length + 3 + 3 * j) (foldM MK ((wheelL v R).take j)) H)) (fun s109 _ => R.length - (intOf s109).toNat)
          case atStart => exact ⟨0, H6, Nat.zero_le _, rfl, HP6.out⟩
          case round =>
            obtain ⟨j, H, hj, rfl, HPJ⟩ := hrel
            by_cases hlt : j < R.length
            · have hltz : (j : Int) < (R.length : Int) := by omega
              have hL0 : 0 < R.length := by omega
              have hj1 := Nat.mod_lt (j + 1) hL0
              have HWT := Lib.hid (wheel_take v R hlt)
              have HRJ := Lib.hid hlt
              obtain ⟨_, _, q0⟩ := HPJ.out.c3 hlt
              have n0 := (HPJ.out.drew HWW.out).c3 hj1
              have HKL := Lib.hid ((HPJ.out.drew HWW.out).make (by rw [foldM_P, HMKP.out]; exact H64.out) (by rw [foldM_P, HMKP.out]; exact HL.out) (by have := HNN.out; have := HRL.out; omega) v (R.getD j 0) (R.getD ((j + 1) % R.length) 0))
              have HC3 : Hid (∀ W n' M' G', Hid (PInv w0 w5 F mb w.heap.size (w.heap.size + 1) v (some ⟨g, 0, none⟩) R (some ⟨ge, 0, none⟩) E W n' M' G') → W.cell? ⟨w.heap.size, 0, none⟩ = some (.pointer (some ⟨mb, 0, none⟩)) ∧ W.cell? ⟨w.heap.size + 1, 0, none⟩ = some (.int .i64 v) ∧ W.cell? ⟨g, (j + 1) % R.length, none⟩ = some (.int .i64 (R.getD ((j + 1) % R.length) 0))) := fun W n' M' G' hp => hp.out.c3 hj1
              rw [wheelT_eq] at HWT
              have hr1 : ((j : Int) + 1).tmod (R.length : Int) = (((j + 1) % R.length : Nat) : Int) := by
                have := mod_at (k := j) (s := 1) (n := R.length) (by have := HRL.out; omega)
                rw [show wrap64 ((j : Int) + ((1 : Nat) : Int)) = (j : Int) + 1 by have := HRL.out; unfold wrap64; omega] at this; exact this
              have hw1 : IntKind.i64.wrap ((j : Int) + 1) = (j : Int) + 1 := wrap_smJ (by omega) (by have := HRL.out; omega)
              have hw2 : IntKind.i64.wrap (((j + 1) % R.length : Nat) : Int) = (((j + 1) % R.length : Nat) : Int) := wrap_smJ (by omega) (by have := HRL.out; omega)
              have hz1 : (0 : Int) ≤ (((j + 1) % R.length : Nat) : Int) := by omega
              have hz2 : (((j + 1) % R.length : Nat) : Int) < (R.length : Int) := by omega
              have hnn : ¬R.length = 0 := by omega
              have hnz : ¬(R.length : Int) = 0 := by omega
              generalize R.getD j 0 = rb at *
              generalize R.getD ((j + 1) % R.length) 0 = rc at *
              generalize (j + 1) % R.length = j1 at *
              go_wp2
              go_region_held3 (fun w' => w'.cell? ⟨w.heap.size, 0, none⟩ = some (.pointer (some ⟨mb, 0, none⟩)) ∧ w'.cell? ⟨w.heap.size + 1, 0, none⟩ = some (.int .i64 v) ∧ w'.cell? ⟨g, j1, none⟩ = some (.int .i64 rc)) (first | with_reducible exact n0 | with_reducible exact n1)
                (first | (go_at_call 28; with_reducible refine HKL.out.mono ?_; rintro r w7 ⟨rfl, G7, HP7'⟩; have HP8 := Lib.hid HP7'.out.1; have n1 := HC3.out _ _ _ _ HP8))
              clear n0 n1 hr1 hw1 hw2 hz1 hz2 hnn hnz q0 hltz
              have HP7 : Hid (PInv w0 w5 F mb w.heap.size (w.heap.size + 1) v (some ⟨g, 0, none⟩) R (some ⟨ge, 0, none⟩) E w7 (n + 3 * R.length + 3 + 3 * (j + 1)) (foldM MK ((wheelL v R).take (j + 1))) G7) := by
                unfold Hid; rw [HWT.out, foldM_snoc]; exact HP8.out
              go_wp2
              go_roundw
              case rel =>
                have HJ2 : j + 1 ≤ R.length := HRJ.out
                have HWJ : wrap64 ((j : Int) + 1) = ((j + 1 : Nat) : Int) := wrapJ (by have := HRL.out; have := HRJ.out; omega)
                exact ⟨j + 1, G7, HJ2, (by first | rfl | rw [HWJ]), HP7.out⟩
              case measure => have := HRL.out; have := HRJ.out; first | (simp [intOf]; omega) | (rw [wrapJ (by omega)]; simp [intOf]; omega)
            · have e : j = R.length := by omega
              subst e
              have HPZ : Hid (PInv w0 w5 F mb w.heap.size (w.heap.size + 1) v (some ⟨g, 0, none⟩) R (some ⟨ge, 0, none⟩) E wr (n + 3 * R.length + 3 + 3 * R.length) MZ H) := by
                have := HPJ.out
                rw [← wheel_len v R, List.take_length, HMZ.out, wheel_len] at this
                exact this
              clear hlt hj HPJ HP6
              go_wp2
              go_ret
              refine ⟨rfl, H, HPZ.out.m, ?_, fun i hi => (HPZ.out.sub i hi).imp id (fun e => Nat.le_trans HB5.out.size e)⟩
              have s1 : Stay F w w5 := Stay.of_below HB5.out
              exact s1.trans (HPZ.out.st.mono fun i hi => .inl hi)

end Go.Proofs.YtdoaniccefdkaaaGreatDoor
