/- Part of the proof. No conditions. -/
import Derived.Test.YtdoaniccefdkaaaGreatDoorZR

set_option linter.all false
/- walk.at: the walk. -/
namespace Go.Proofs.YtdoaniccefdkaaaGreatDoor
open Go.RowKit Tvf Go.Maps Go.WideMaps

theorem min_I (a b : Int) : min a b = minI a b := by unfold minI; split <;> omega
theorem max_I (a b : Int) : max a b = maxI a b := by unfold maxI; split <;> omega

set_option maxRecDepth 100000 in
set_option maxHeartbeats 8000000 in
theorem at_walk {w : World} {mb n : Nat} {M : MeshM} {F : Nat → Prop} (h : MeshAt w mb n M F) (h64 : ∀ p, p ∈ M.P → pt64 p) (p : Pt) (hp : pt64 p) (t : Tri3) :
    Calls Tryz.prog 113 #[.pointer (some ⟨mb, 0, none⟩), encTV t, V p] w fun r w' => r = .returned (atV M p t) ∧ Below w.heap.size w w' := by
  have HSD := Lib.hid (fun W (hb : Below w.heap.size w W) a b => side_walk (h.below hb) h64 p hp a b)
  have HPT := Lib.hid (fun W (hb : Below w.heap.size w W) a => point_walk (h.below hb) a)
  have HCM := Lib.hid (fun W a => acmp_walk (ptAt M a) p (ptAt_64 h64 a) hp W)
  have H3 := Lib.hid (sT_3 M p t)
  have HAT := Lib.hid (fun k hk hl hs => atV_at (M := M) (p := p) (t := t) (k := k) hk hl hs)
  have HNO := Lib.hid (fun hl => atV_no (M := M) (p := p) (t := t) hl)
  have HWH := Lib.hid (fun h => placeM_whole (M := M) (p := p) (t := t) h)
  have HON := Lib.hid (fun k h hk hl hc => placeM_on (M := M) (p := p) (t := t) (k := k) h hk hl hc)
  have HED := Lib.hid (fun h hl => placeM_edge (M := M) (p := p) (t := t) h hl)
  have HER := Lib.hid (eK_range (sT M p t))
  have HS0 := Lib.hid (sT_0 M p t)
  have HS1 := Lib.hid (sT_1 M p t)
  have HS2 := Lib.hid (sT_2 M p t)
  clear h h64 hp
  obtain ⟨a, b, c⟩ := t
  obtain ⟨px, py⟩ := p
  generalize hs : sT M (px, py) (a, b, c) = s at *
  generalize hz : atV M (px, py) (a, b, c) = Z at *
  generalize placeM M (px, py) (a, b, c) = PL at *
  clear hs hz
  unfold encTV V at *
  dsimp only at *
  obtain ⟨HT, HP, HR, HB⟩ := at_boxes w #[.int .i64 a, .int .i64 b, .int .i64 c] #[.float .f64 px, .float .f64 py] #[.int .u8 0, .int .i64 0, .int .i64 0, .int .i64 0] 45 52 87
  have HTB := Lib.hid HT
  have HPB := Lib.hid HP
  have HRB := Lib.hid HR
  have HBW := Lib.hid HB
  clear HT HP HR HB
  go_enter Tryz.func113, Tryz.ntmps113
  go_wp2
  generalize (((w.alloc (.cells #[.int .i64 a, .int .i64 b, .int .i64 c] 45)).alloc (.cells #[.float .f64 px, .float .f64 py] 52)).alloc (.cells #[.int .u8 0, .int .i64 0, .int .i64 0, .int .i64 0] 87)) = W3 at *
  go_loopw [9, 20] (fun s9 s20 wr => ∃ (k : Nat) (z : Int), z = k ∧ k ≤ 3 ∧ s9 = .int .i64 (eK s k) ∧ s20 = .int .i64 z ∧ Hid (∀ j, j < k → s j ≠ -1) ∧ Hid (Below W3.heap.size W3 wr)) (fun _ s20 _ => (3 - intOf s20).toNat)
  case atStart => exact ⟨0, 0, rfl, by omega, rfl, rfl, fun j hj => absurd hj (by omega), Below.refl _ _⟩
  case round =>
    obtain ⟨k, z, hz, hk, rfl, rfl, HL, HBr⟩ := hrel
    have HT3 := Lib.hid (HTB.out.below HBr.out)
    have HP2 := Lib.hid (HPB.out.below HBr.out)
    have HR4 := Lib.hid (HRB.out.below HBr.out)
    have HW := Lib.hid (HBW.out.trans (HBr.out.mono HBW.out.size))
    obtain ⟨t0, t1, t2⟩ := HT3.out.c3
    obtain ⟨p0, p1⟩ := HP2.out.c2
    have h4 : k = 0 ∨ k = 1 ∨ k = 2 ∨ k = 3 := by omega
    clear hk
    rcases h4 with rfl | rfl | rfl | rfl
    · obtain rfl : z = 0 := by omega
      clear hz
      have ix := idxT_0 (.int .i64 a) (.int .i64 b) (.int .i64 c)
      have HSk : Hid (∀ W, Below w.heap.size w W → Calls Tryz.prog 162 #[.pointer (some ⟨mb, 0, none⟩), .int .i64 a, .int .i64 b, .agg #[.float .f64 px, .float .f64 py]] W fun r w' => r = .returned (.int .i64 (s 0)) ∧ Below W.heap.size W w') := by
        have := HSD.out
        unfold Hid
        rw [HS0.out]
        exact fun W hb => this W hb a b
      have h3 := H3.out 0
      have hek : eK s (0 + 1) = if s 0 = 0 then ((0 : Nat) : Int) else eK s 0 := rfl
      generalize hsk : s 0 = sk at *
      have HK := Lib.hid hsk
      clear hsk
      rcases h3 with rfl | rfl | rfl
      · have HZ := Lib.hid (HAT.out 0 (by omega) HL.out HK.out)
        go_wp2_with (go_at_call 162; with_reducible refine (HSk.out _ HW.out).mono ?_; rintro r w1 ⟨rfl, hb1⟩; have HW1 := Lib.hid (HW.out.trans (hb1.mono HW.out.size)); obtain ⟨r0, r1, r2, r3⟩ := (HR4.out.below hb1).c4; have g0 := (HR4.out.below hb1).fz 0; have g1 := (HR4.out.below hb1).fz 1; have g2 := (HR4.out.below hb1).fz 2; have g3 := (HR4.out.below hb1).fz 3)
        obtain ⟨f0, f1, f2, f3⟩ := ((HR4.out.below hb1).put4 (.int .u8 0) (.int .i64 0) (.int .i64 0) (.int .i64 0)).c4
        refine bodyPost_ret (by simp [results, Tryz.results113, go_sem, f0, f1, f2, f3]; try rfl) rfl ?_
        exact ⟨by rw [HZ.out]; rfl, put4_below HW1.out (by omega) _ _ _ _⟩
      · have he : Hid (((0 : Nat) : Int) = eK s (0 + 1)) := by unfold Hid; rw [hek, if_pos rfl]
        clear hek
        go_wp2_with (go_at_call 162; with_reducible refine (HSk.out _ HW.out).mono ?_; rintro r w1 ⟨rfl, hb1⟩; have HW1 := Lib.hid (HBr.out.trans (hb1.mono HBr.out.size)))
        go_roundw
        case rel => exact ⟨0 + 1, 0 + 1, by omega, by omega, by rw [← he.out]; rfl, rfl, fun j hj => (by rcases Nat.lt_or_ge j 0 with h | h; exact HL.out j h; (have e : j = 0 := by omega); rw [e, HK.out]; decide), HW1.out⟩
        case measure => decide
      · have he : Hid (eK s 0 = eK s (0 + 1)) := by unfold Hid; rw [hek, if_neg (by decide)]
        clear hek
        go_wp2_with (go_at_call 162; with_reducible refine (HSk.out _ HW.out).mono ?_; rintro r w1 ⟨rfl, hb1⟩; have HW1 := Lib.hid (HBr.out.trans (hb1.mono HBr.out.size)))
        go_roundw
        case rel => exact ⟨0 + 1, 0 + 1, by omega, by omega, by rw [← he.out], rfl, fun j hj => (by rcases Nat.lt_or_ge j 0 with h | h; exact HL.out j h; (have e : j = 0 := by omega); rw [e, HK.out]; decide), HW1.out⟩
        case measure => decide
    · obtain rfl : z = 1 := by omega
      clear hz
      have ix := idxT_1 (.int .i64 a) (.int .i64 b) (.int .i64 c)
      have HSk : Hid (∀ W, Below w.heap.size w W → Calls Tryz.prog 162 #[.pointer (some ⟨mb, 0, none⟩), .int .i64 b, .int .i64 c, .agg #[.float .f64 px, .float .f64 py]] W fun r w' => r = .returned (.int .i64 (s 1)) ∧ Below W.heap.size W w') := by
        have := HSD.out
        unfold Hid
        rw [HS1.out]
        exact fun W hb => this W hb b c
      have h3 := H3.out 1
      have hek : eK s (1 + 1) = if s 1 = 0 then ((1 : Nat) : Int) else eK s 1 := rfl
      generalize hsk : s 1 = sk at *
      have HK := Lib.hid hsk
      clear hsk
      rcases h3 with rfl | rfl | rfl
      · have HZ := Lib.hid (HAT.out 1 (by omega) HL.out HK.out)
        go_wp2_with (go_at_call 162; with_reducible refine (HSk.out _ HW.out).mono ?_; rintro r w1 ⟨rfl, hb1⟩; have HW1 := Lib.hid (HW.out.trans (hb1.mono HW.out.size)); obtain ⟨r0, r1, r2, r3⟩ := (HR4.out.below hb1).c4; have g0 := (HR4.out.below hb1).fz 0; have g1 := (HR4.out.below hb1).fz 1; have g2 := (HR4.out.below hb1).fz 2; have g3 := (HR4.out.below hb1).fz 3)
        obtain ⟨f0, f1, f2, f3⟩ := ((HR4.out.below hb1).put4 (.int .u8 0) (.int .i64 0) (.int .i64 0) (.int .i64 0)).c4
        refine bodyPost_ret (by simp [results, Tryz.results113, go_sem, f0, f1, f2, f3]; try rfl) rfl ?_
        exact ⟨by rw [HZ.out]; rfl, put4_below HW1.out (by omega) _ _ _ _⟩
      · have he : Hid (((1 : Nat) : Int) = eK s (1 + 1)) := by unfold Hid; rw [hek, if_pos rfl]
        clear hek
        go_wp2_with (go_at_call 162; with_reducible refine (HSk.out _ HW.out).mono ?_; rintro r w1 ⟨rfl, hb1⟩; have HW1 := Lib.hid (HBr.out.trans (hb1.mono HBr.out.size)))
        go_roundw
        case rel => exact ⟨1 + 1, 1 + 1, by omega, by omega, by rw [← he.out]; rfl, rfl, fun j hj => (by rcases Nat.lt_or_ge j 1 with h | h; exact HL.out j h; (have e : j = 1 := by omega); rw [e, HK.out]; decide), HW1.out⟩
        case measure => decide
      · have he : Hid (eK s 1 = eK s (1 + 1)) := by unfold Hid; rw [hek, if_neg (by decide)]
        clear hek
        go_wp2_with (go_at_call 162; with_reducible refine (HSk.out _ HW.out).mono ?_; rintro r w1 ⟨rfl, hb1⟩; have HW1 := Lib.hid (HBr.out.trans (hb1.mono HBr.out.size)))
        go_roundw
        case rel => exact ⟨1 + 1, 1 + 1, by omega, by omega, by rw [← he.out], rfl, fun j hj => (by rcases Nat.lt_or_ge j 1 with h | h; exact HL.out j h; (have e : j = 1 := by omega); rw [e, HK.out]; decide), HW1.out⟩
        case measure => decide
    · obtain rfl : z = 2 := by omega
      clear hz
      have ix := idxT_2 (.int .i64 a) (.int .i64 b) (.int .i64 c)
      have HSk : Hid (∀ W, Below w.heap.size w W → Calls Tryz.prog 162 #[.pointer (some ⟨mb, 0, none⟩), .int .i64 c, .int .i64 a, .agg #[.float .f64 px, .float .f64 py]] W fun r w' => r = .returned (.int .i64 (s 2)) ∧ Below W.heap.size W w') := by
        have := HSD.out
        unfold Hid
        rw [HS2.out]
        exact fun W hb => this W hb c a
      have h3 := H3.out 2
      have hek : eK s (2 + 1) = if s 2 = 0 then ((2 : Nat) : Int) else eK s 2 := rfl
      generalize hsk : s 2 = sk at *
      have HK := Lib.hid hsk
      clear hsk
      rcases h3 with rfl | rfl | rfl
      · have HZ := Lib.hid (HAT.out 2 (by omega) HL.out HK.out)
        go_wp2_with (go_at_call 162; with_reducible refine (HSk.out _ HW.out).mono ?_; rintro r w1 ⟨rfl, hb1⟩; have HW1 := Lib.hid (HW.out.trans (hb1.mono HW.out.size)); obtain ⟨r0, r1, r2, r3⟩ := (HR4.out.below hb1).c4; have g0 := (HR4.out.below hb1).fz 0; have g1 := (HR4.out.below hb1).fz 1; have g2 := (HR4.out.below hb1).fz 2; have g3 := (HR4.out.below hb1).fz 3)
        obtain ⟨f0, f1, f2, f3⟩ := ((HR4.out.below hb1).put4 (.int .u8 0) (.int .i64 0) (.int .i64 0) (.int .i64 0)).c4
        refine bodyPost_ret (by simp [results, Tryz.results113, go_sem, f0, f1, f2, f3]; try rfl) rfl ?_
        exact ⟨by rw [HZ.out]; rfl, put4_below HW1.out (by omega) _ _ _ _⟩
      · have he : Hid (((2 : Nat) : Int) = eK s (2 + 1)) := by unfold Hid; rw [hek, if_pos rfl]
        clear hek
        go_wp2_with (go_at_call 162; with_reducible refine (HSk.out _ HW.out).mono ?_; rintro r w1 ⟨rfl, hb1⟩; have HW1 := Lib.hid (HBr.out.trans (hb1.mono HBr.out.size)))
        go_roundw
        case rel => exact ⟨2 + 1, 2 + 1, by omega, by omega, by rw [← he.out]; rfl, rfl, fun j hj => (by rcases Nat.lt_or_ge j 2 with h | h; exact HL.out j h; (have e : j = 2 := by omega); rw [e, HK.out]; decide), HW1.out⟩
        case measure => decide
      · have he : Hid (eK s 2 = eK s (2 + 1)) := by unfold Hid; rw [hek, if_neg (by decide)]
        clear hek
        go_wp2_with (go_at_call 162; with_reducible refine (HSk.out _ HW.out).mono ?_; rintro r w1 ⟨rfl, hb1⟩; have HW1 := Lib.hid (HBr.out.trans (hb1.mono HBr.out.size)))
        go_roundw
        case rel => exact ⟨2 + 1, 2 + 1, by omega, by omega, by rw [← he.out], rfl, fun j hj => (by rcases Nat.lt_or_ge j 2 with h | h; exact HL.out j h; (have e : j = 2 := by omega); rw [e, HK.out]; decide), HW1.out⟩
        case measure => decide
    · obtain rfl : z = 3 := by omega
      clear hz
      have HZ := Lib.hid (HNO.out HL.out)
      have her := HER.out
      have HE3 : Hid (∃ e, eK s 3 = e) := ⟨_, rfl⟩
      clear HER H3 HAT HSD HS0 HS1 HS2 HL HNO
      generalize eK s 3 = e at *
      rcases (show e = -1 ∨ (0 ≤ e ∧ e ≤ 2) by omega) with rfl | ⟨he0, he2⟩
      · have HZ2 := Lib.hid (HWH.out rfl)
        obtain ⟨r0, r1, r2, r3⟩ := HR4.out.c4
        have g0 := HR4.out.fz 0
        have g1 := HR4.out.fz 1
        have g2 := HR4.out.fz 2
        have g3 := HR4.out.fz 3
        go_wp2
        obtain ⟨f0, f1, f2, f3⟩ := (HR4.out.put4 (.int .u8 1) (.int .i64 a) (.int .i64 b) (.int .i64 c)).c4
        refine bodyPost_ret (by simp [results, Tryz.results113, go_sem, f0, f1, f2, f3]; try rfl) rfl ?_
        exact ⟨by rw [HZ.out, HZ2.out]; rfl, put4_below HW.out (by omega) _ _ _ _⟩
      · have HE0 := Lib.hid he0
        have HER := Lib.hid her
        have hge : ¬e < 0 := by omega
        clear HWH her he0 he2 HE3
        go_wp2
        clear p0 p1 t0 t1 t2
        go_loopw [52] (fun s52 wr2 => ∃ (k : Nat) (z : Int), z = k ∧ k ≤ 3 ∧ s52 = .int .i64 z ∧ Hid (∀ j : Nat, j < k → cmpI (ptAt M (corT (a, b, c) j)) (px, py) ≠ 0) ∧ Hid (Below W3.heap.size W3 wr2)) (fun s52 _ => (3 - intOf s52).toNat)
        case atStart => exact ⟨0, 0, rfl, by omega, rfl, fun j hj => absurd hj (by omega), HBr.out⟩
        case round =>
        rename World => wr2
        obtain ⟨k, z, hz, hk, rfl, HC, HB2⟩ := hrel
        have HT5 := Lib.hid (HTB.out.below HB2.out)
        have HP5 := Lib.hid (HPB.out.below HB2.out)
        have HR5 := Lib.hid (HRB.out.below HB2.out)
        have HW2 := Lib.hid (HBW.out.trans (HB2.out.mono HBW.out.size))
        obtain ⟨p0, p1⟩ := HP5.out.c2
        have h4 : k = 0 ∨ k = 1 ∨ k = 2 ∨ k = 3 := by omega
        clear hk
        rcases h4 with rfl | rfl | rfl | rfl
        · obtain rfl : z = 0 := by omega
          clear hz
          have ix := idxT_0 (.int .i64 a) (.int .i64 b) (.int .i64 c)
          have HPk := Lib.hid (HPT.out wr2 HW2.out a)
          have HCk := Lib.hid (fun W => HCM.out W a)
          obtain ⟨cm, hcm⟩ : ∃ cm : Int, Hid (cmpI (ptAt M (corT (a, b, c) ((0 : Nat) : Int))) (px, py) = cm) := ⟨_, rfl⟩
          have hcm2 : cmpI (ptAt M a) (px, py) = cm := hcm.out
          rw [hcm2] at HCk
          clear hcm2
          generalize ptAt M a = pk at HPk HCk
          obtain ⟨kx, ky⟩ := pk
          generalize hasM M a = kk at HPk
          dsimp only at HPk HCk
          by_cases hc0 : cm = 0
          · subst hc0
            have HZ2 := Lib.hid (HON.out 0 (by first | exact HE0.out | (have := HE0.out; omega)) (by omega) HC.out hcm.out)
            go_wp2_with (first
              | (go_at_call 48; with_reducible refine HPk.out.mono ?_; rintro r w1 ⟨rfl, hb1⟩; have HW1 := Lib.hid (HW2.out.trans (hb1.mono HW2.out.size)); have u0 := fun o => cell_al (cell_keep p0 hb1) o; have u1 := fun o => cell_al (cell_keep p1 hb1) o)
              | (go_at_call 120; with_reducible refine (HCk.out _).mono ?_; rintro r w3 ⟨rfl, hb3⟩; have B3 := Lib.hid (hb1.trans (((Below.refl _ w1).alloc (Nat.le_refl _) (.cells #[.float .f64 kx, .float .f64 ky] 52)).trans (hb3.mono (by simp)) |>.mono hb1.size)); obtain ⟨r0, r1, r2, r3⟩ := (HR5.out.below B3.out).c4; have g0 := (HR5.out.below B3.out).fz 0; have g1 := (HR5.out.below B3.out).fz 1; have g2 := (HR5.out.below B3.out).fz 2; have g3 := (HR5.out.below B3.out).fz 3))
            obtain ⟨f0, f1, f2, f3⟩ := ((HR5.out.below B3.out).put4 (.int .u8 3) (.int .i64 a) (.int .i64 0) (.int .i64 0)).c4
            refine bodyPost_ret (by simp [results, Tryz.results113, go_sem, f0, f1, f2, f3]; try rfl) rfl ?_
            exact ⟨by rw [HZ.out, HZ2.out]; rfl, put4_below (HW2.out.trans (B3.out.mono HW2.out.size)) (by omega) _ _ _ _⟩
          · go_wp2_with (first
              | (go_at_call 48; with_reducible refine HPk.out.mono ?_; rintro r w1 ⟨rfl, hb1⟩; have HW1 := Lib.hid (HW2.out.trans (hb1.mono HW2.out.size)); have u0 := fun o => cell_al (cell_keep p0 hb1) o; have u1 := fun o => cell_al (cell_keep p1 hb1) o)
              | (go_at_call 120; with_reducible refine (HCk.out _).mono ?_; rintro r w3 ⟨rfl, hb3⟩; have B3 := Lib.hid (hb1.trans (((Below.refl _ w1).alloc (Nat.le_refl _) (.cells #[.float .f64 kx, .float .f64 ky] 52)).trans (hb3.mono (by simp)) |>.mono hb1.size))))
            have HBn := Lib.hid (HB2.out.trans (B3.out.mono HB2.out.size))
            go_roundw
            case rel => exact ⟨0 + 1, 0 + 1, by omega, by omega, rfl, fun j hj => (by rcases Nat.lt_or_ge j 0 with h | h; exact HC.out j h; (have e : j = 0 := by omega); rw [e, hcm.out]; exact hc0), HBn.out⟩
            case measure => decide
        · obtain rfl : z = 1 := by omega
          clear hz
          have ix := idxT_1 (.int .i64 a) (.int .i64 b) (.int .i64 c)
          have HPk := Lib.hid (HPT.out wr2 HW2.out b)
          have HCk := Lib.hid (fun W => HCM.out W b)
          obtain ⟨cm, hcm⟩ : ∃ cm : Int, Hid (cmpI (ptAt M (corT (a, b, c) ((1 : Nat) : Int))) (px, py) = cm) := ⟨_, rfl⟩
          have hcm2 : cmpI (ptAt M b) (px, py) = cm := hcm.out
          rw [hcm2] at HCk
          clear hcm2
          generalize ptAt M b = pk at HPk HCk
          obtain ⟨kx, ky⟩ := pk
          generalize hasM M b = kk at HPk
          dsimp only at HPk HCk
          by_cases hc0 : cm = 0
          · subst hc0
            have HZ2 := Lib.hid (HON.out 1 (by first | exact HE0.out | (have := HE0.out; omega)) (by omega) HC.out hcm.out)
            go_wp2_with (first
              | (go_at_call 48; with_reducible refine HPk.out.mono ?_; rintro r w1 ⟨rfl, hb1⟩; have HW1 := Lib.hid (HW2.out.trans (hb1.mono HW2.out.size)); have u0 := fun o => cell_al (cell_keep p0 hb1) o; have u1 := fun o => cell_al (cell_keep p1 hb1) o)
              | (go_at_call 120; with_reducible refine (HCk.out _).mono ?_; rintro r w3 ⟨rfl, hb3⟩; have B3 := Lib.hid (hb1.trans (((Below.refl _ w1).alloc (Nat.le_refl _) (.cells #[.float .f64 kx, .float .f64 ky] 52)).trans (hb3.mono (by simp)) |>.mono hb1.size)); obtain ⟨r0, r1, r2, r3⟩ := (HR5.out.below B3.out).c4; have g0 := (HR5.out.below B3.out).fz 0; have g1 := (HR5.out.below B3.out).fz 1; have g2 := (HR5.out.below B3.out).fz 2; have g3 := (HR5.out.below B3.out).fz 3))
            obtain ⟨f0, f1, f2, f3⟩ := ((HR5.out.below B3.out).put4 (.int .u8 3) (.int .i64 b) (.int .i64 0) (.int .i64 0)).c4
            refine bodyPost_ret (by simp [results, Tryz.results113, go_sem, f0, f1, f2, f3]; try rfl) rfl ?_
            exact ⟨by rw [HZ.out, HZ2.out]; rfl, put4_below (HW2.out.trans (B3.out.mono HW2.out.size)) (by omega) _ _ _ _⟩
          · go_wp2_with (first
              | (go_at_call 48; with_reducible refine HPk.out.mono ?_; rintro r w1 ⟨rfl, hb1⟩; have HW1 := Lib.hid (HW2.out.trans (hb1.mono HW2.out.size)); have u0 := fun o => cell_al (cell_keep p0 hb1) o; have u1 := fun o => cell_al (cell_keep p1 hb1) o)
              | (go_at_call 120; with_reducible refine (HCk.out _).mono ?_; rintro r w3 ⟨rfl, hb3⟩; have B3 := Lib.hid (hb1.trans (((Below.refl _ w1).alloc (Nat.le_refl _) (.cells #[.float .f64 kx, .float .f64 ky] 52)).trans (hb3.mono (by simp)) |>.mono hb1.size))))
            have HBn := Lib.hid (HB2.out.trans (B3.out.mono HB2.out.size))
            go_roundw
            case rel => exact ⟨1 + 1, 1 + 1, by omega, by omega, rfl, fun j hj => (by rcases Nat.lt_or_ge j 1 with h | h; exact HC.out j h; (have e : j = 1 := by omega); rw [e, hcm.out]; exact hc0), HBn.out⟩
            case measure => decide
        · obtain rfl : z = 2 := by omega
          clear hz
          have ix := idxT_2 (.int .i64 a) (.int .i64 b) (.int .i64 c)
          have HPk := Lib.hid (HPT.out wr2 HW2.out c)
          have HCk := Lib.hid (fun W => HCM.out W c)
          obtain ⟨cm, hcm⟩ : ∃ cm : Int, Hid (cmpI (ptAt M (corT (a, b, c) ((2 : Nat) : Int))) (px, py) = cm) := ⟨_, rfl⟩
          have hcm2 : cmpI (ptAt M c) (px, py) = cm := hcm.out
          rw [hcm2] at HCk
          clear hcm2
          generalize ptAt M c = pk at HPk HCk
          obtain ⟨kx, ky⟩ := pk
          generalize hasM M c = kk at HPk
          dsimp only at HPk HCk
          by_cases hc0 : cm = 0
          · subst hc0
            have HZ2 := Lib.hid (HON.out 2 (by first | exact HE0.out | (have := HE0.out; omega)) (by omega) HC.out hcm.out)
            go_wp2_with (first
              | (go_at_call 48; with_reducible refine HPk.out.mono ?_; rintro r w1 ⟨rfl, hb1⟩; have HW1 := Lib.hid (HW2.out.trans (hb1.mono HW2.out.size)); have u0 := fun o => cell_al (cell_keep p0 hb1) o; have u1 := fun o => cell_al (cell_keep p1 hb1) o)
              | (go_at_call 120; with_reducible refine (HCk.out _).mono ?_; rintro r w3 ⟨rfl, hb3⟩; have B3 := Lib.hid (hb1.trans (((Below.refl _ w1).alloc (Nat.le_refl _) (.cells #[.float .f64 kx, .float .f64 ky] 52)).trans (hb3.mono (by simp)) |>.mono hb1.size)); obtain ⟨r0, r1, r2, r3⟩ := (HR5.out.below B3.out).c4; have g0 := (HR5.out.below B3.out).fz 0; have g1 := (HR5.out.below B3.out).fz 1; have g2 := (HR5.out.below B3.out).fz 2; have g3 := (HR5.out.below B3.out).fz 3))
            obtain ⟨f0, f1, f2, f3⟩ := ((HR5.out.below B3.out).put4 (.int .u8 3) (.int .i64 c) (.int .i64 0) (.int .i64 0)).c4
            refine bodyPost_ret (by simp [results, Tryz.results113, go_sem, f0, f1, f2, f3]; try rfl) rfl ?_
            exact ⟨by rw [HZ.out, HZ2.out]; rfl, put4_below (HW2.out.trans (B3.out.mono HW2.out.size)) (by omega) _ _ _ _⟩
          · go_wp2_with (first
              | (go_at_call 48; with_reducible refine HPk.out.mono ?_; rintro r w1 ⟨rfl, hb1⟩; have HW1 := Lib.hid (HW2.out.trans (hb1.mono HW2.out.size)); have u0 := fun o => cell_al (cell_keep p0 hb1) o; have u1 := fun o => cell_al (cell_keep p1 hb1) o)
              | (go_at_call 120; with_reducible refine (HCk.out _).mono ?_; rintro r w3 ⟨rfl, hb3⟩; have B3 := Lib.hid (hb1.trans (((Below.refl _ w1).alloc (Nat.le_refl _) (.cells #[.float .f64 kx, .float .f64 ky] 52)).trans (hb3.mono (by simp)) |>.mono hb1.size))))
            have HBn := Lib.hid (HB2.out.trans (B3.out.mono HB2.out.size))
            go_roundw
            case rel => exact ⟨2 + 1, 2 + 1, by omega, by omega, rfl, fun j hj => (by rcases Nat.lt_or_ge j 2 with h | h; exact HC.out j h; (have e : j = 2 := by omega); rw [e, hcm.out]; exact hc0), HBn.out⟩
            case measure => decide
        · obtain rfl : z = 3 := by omega
          clear hz
          have HZ2 := Lib.hid (HED.out (by first | exact HE0.out | (have := HE0.out; omega)) HC.out)
          obtain ⟨t0, t1, t2⟩ := HT5.out.c3
          obtain ⟨r0, r1, r2, r3⟩ := HR5.out.c4
          have g0 := HR5.out.fz 0
          have g1 := HR5.out.fz 1
          have g2 := HR5.out.fz 2
          have g3 := HR5.out.fz 3
          have her := HER.out
          rcases (show e = 0 ∨ e = 1 ∨ e = 2 by have := HE0.out; omega) with rfl | rfl | rfl
          · have HZ3 : Hid (PL = ⟨2, minI a b, maxI a b, 0⟩) := HZ2.out
            clear HON HED HZ2
            go_wp2
            go_quiet (fail)
            have HRq := quiet_box HR5.out nq
            obtain ⟨r0, r1, r2, r3⟩ := HRq.c4
            have g0 := HRq.fz 0
            have g1 := HRq.fz 1
            have g2 := HRq.fz 2
            have g3 := HRq.fz 3
            have HBq := Lib.hid (below_drewNs HW2.out nq)
            go_wp2
            all_goals
              first
                | (obtain ⟨f0, f1, f2, f3⟩ := (HRq.put4 (.int .u8 2) (.int .i64 (min a b)) (.int .i64 (max a b)) (.int .i64 0)).c4
                   have h1 : minI a b = min a b := (min_I a b).symm
                   have h2 : maxI a b = max a b := (max_I a b).symm
                   refine bodyPost_ret (by simp [results, Tryz.results113, go_sem, f0, f1, f2, f3]; try rfl) rfl ?_
                   exact ⟨by rw [HZ.out, HZ3.out, h1, h2]; rfl, put4_below HBq.out (by omega) _ _ _ _⟩)
                | (obtain ⟨f0, f1, f2, f3⟩ := (HRq.put4 (.int .u8 2) (.int .i64 a) (.int .i64 b) (.int .i64 0)).c4
                   have h1 : minI a b = a := by unfold minI; split <;> omega
                   have h2 : maxI a b = b := by unfold maxI; split <;> omega
                   refine bodyPost_ret (by simp [results, Tryz.results113, go_sem, f0, f1, f2, f3]; try rfl) rfl ?_
                   exact ⟨by rw [HZ.out, HZ3.out, h1, h2]; rfl, put4_below HBq.out (by omega) _ _ _ _⟩)
                | (obtain ⟨f0, f1, f2, f3⟩ := (HRq.put4 (.int .u8 2) (.int .i64 b) (.int .i64 a) (.int .i64 0)).c4
                   have h1 : minI a b = b := by unfold minI; split <;> omega
                   have h2 : maxI a b = a := by unfold maxI; split <;> omega
                   refine bodyPost_ret (by simp [results, Tryz.results113, go_sem, f0, f1, f2, f3]; try rfl) rfl ?_
                   exact ⟨by rw [HZ.out, HZ3.out, h1, h2]; rfl, put4_below HBq.out (by omega) _ _ _ _⟩)
                | (obtain ⟨f0, f1, f2, f3⟩ := (HRq.put4 (.int .u8 2) (.int .i64 a) (.int .i64 a) (.int .i64 0)).c4
                   have h1 : minI a b = a := by unfold minI; split <;> omega
                   have h2 : maxI a b = a := by unfold maxI; split <;> omega
                   refine bodyPost_ret (by simp [results, Tryz.results113, go_sem, f0, f1, f2, f3]; try rfl) rfl ?_
                   exact ⟨by rw [HZ.out, HZ3.out, h1, h2]; rfl, put4_below HBq.out (by omega) _ _ _ _⟩)
                | (obtain ⟨f0, f1, f2, f3⟩ := (HRq.put4 (.int .u8 2) (.int .i64 b) (.int .i64 b) (.int .i64 0)).c4
                   have h1 : minI a b = b := by unfold minI; split <;> omega
                   have h2 : maxI a b = b := by unfold maxI; split <;> omega
                   refine bodyPost_ret (by simp [results, Tryz.results113, go_sem, f0, f1, f2, f3]; try rfl) rfl ?_
                   exact ⟨by rw [HZ.out, HZ3.out, h1, h2]; rfl, put4_below HBq.out (by omega) _ _ _ _⟩)
          · have HZ3 : Hid (PL = ⟨2, minI b c, maxI b c, 0⟩) := HZ2.out
            clear HON HED HZ2
            go_wp2
            go_quiet (fail)
            have HRq := quiet_box HR5.out nq
            obtain ⟨r0, r1, r2, r3⟩ := HRq.c4
            have g0 := HRq.fz 0
            have g1 := HRq.fz 1
            have g2 := HRq.fz 2
            have g3 := HRq.fz 3
            have HBq := Lib.hid (below_drewNs HW2.out nq)
            go_wp2
            all_goals
              first
                | (obtain ⟨f0, f1, f2, f3⟩ := (HRq.put4 (.int .u8 2) (.int .i64 (min b c)) (.int .i64 (max b c)) (.int .i64 0)).c4
                   have h1 : minI b c = min b c := (min_I b c).symm
                   have h2 : maxI b c = max b c := (max_I b c).symm
                   refine bodyPost_ret (by simp [results, Tryz.results113, go_sem, f0, f1, f2, f3]; try rfl) rfl ?_
                   exact ⟨by rw [HZ.out, HZ3.out, h1, h2]; rfl, put4_below HBq.out (by omega) _ _ _ _⟩)
                | (obtain ⟨f0, f1, f2, f3⟩ := (HRq.put4 (.int .u8 2) (.int .i64 b) (.int .i64 c) (.int .i64 0)).c4
                   have h1 : minI b c = b := by unfold minI; split <;> omega
                   have h2 : maxI b c = c := by unfold maxI; split <;> omega
                   refine bodyPost_ret (by simp [results, Tryz.results113, go_sem, f0, f1, f2, f3]; try rfl) rfl ?_
                   exact ⟨by rw [HZ.out, HZ3.out, h1, h2]; rfl, put4_below HBq.out (by omega) _ _ _ _⟩)
                | (obtain ⟨f0, f1, f2, f3⟩ := (HRq.put4 (.int .u8 2) (.int .i64 c) (.int .i64 b) (.int .i64 0)).c4
                   have h1 : minI b c = c := by unfold minI; split <;> omega
                   have h2 : maxI b c = b := by unfold maxI; split <;> omega
                   refine bodyPost_ret (by simp [results, Tryz.results113, go_sem, f0, f1, f2, f3]; try rfl) rfl ?_
                   exact ⟨by rw [HZ.out, HZ3.out, h1, h2]; rfl, put4_below HBq.out (by omega) _ _ _ _⟩)
                | (obtain ⟨f0, f1, f2, f3⟩ := (HRq.put4 (.int .u8 2) (.int .i64 b) (.int .i64 b) (.int .i64 0)).c4
                   have h1 : minI b c = b := by unfold minI; split <;> omega
                   have h2 : maxI b c = b := by unfold maxI; split <;> omega
                   refine bodyPost_ret (by simp [results, Tryz.results113, go_sem, f0, f1, f2, f3]; try rfl) rfl ?_
                   exact ⟨by rw [HZ.out, HZ3.out, h1, h2]; rfl, put4_below HBq.out (by omega) _ _ _ _⟩)
                | (obtain ⟨f0, f1, f2, f3⟩ := (HRq.put4 (.int .u8 2) (.int .i64 c) (.int .i64 c) (.int .i64 0)).c4
                   have h1 : minI b c = c := by unfold minI; split <;> omega
                   have h2 : maxI b c = c := by unfold maxI; split <;> omega
                   refine bodyPost_ret (by simp [results, Tryz.results113, go_sem, f0, f1, f2, f3]; try rfl) rfl ?_
                   exact ⟨by rw [HZ.out, HZ3.out, h1, h2]; rfl, put4_below HBq.out (by omega) _ _ _ _⟩)
          · have HZ3 : Hid (PL = ⟨2, minI c a, maxI c a, 0⟩) := HZ2.out
            clear HON HED HZ2
            go_wp2
            go_quiet (fail)
            have HRq := quiet_box HR5.out nq
            obtain ⟨r0, r1, r2, r3⟩ := HRq.c4
            have g0 := HRq.fz 0
            have g1 := HRq.fz 1
            have g2 := HRq.fz 2
            have g3 := HRq.fz 3
            have HBq := Lib.hid (below_drewNs HW2.out nq)
            go_wp2
            all_goals
              first
                | (obtain ⟨f0, f1, f2, f3⟩ := (HRq.put4 (.int .u8 2) (.int .i64 (min c a)) (.int .i64 (max c a)) (.int .i64 0)).c4
                   have h1 : minI c a = min c a := (min_I c a).symm
                   have h2 : maxI c a = max c a := (max_I c a).symm
                   refine bodyPost_ret (by simp [results, Tryz.results113, go_sem, f0, f1, f2, f3]; try rfl) rfl ?_
                   exact ⟨by rw [HZ.out, HZ3.out, h1, h2]; rfl, put4_below HBq.out (by omega) _ _ _ _⟩)
                | (obtain ⟨f0, f1, f2, f3⟩ := (HRq.put4 (.int .u8 2) (.int .i64 c) (.int .i64 a) (.int .i64 0)).c4
                   have h1 : minI c a = c := by unfold minI; split <;> omega
                   have h2 : maxI c a = a := by unfold maxI; split <;> omega
                   refine bodyPost_ret (by simp [results, Tryz.results113, go_sem, f0, f1, f2, f3]; try rfl) rfl ?_
                   exact ⟨by rw [HZ.out, HZ3.out, h1, h2]; rfl, put4_below HBq.out (by omega) _ _ _ _⟩)
                | (obtain ⟨f0, f1, f2, f3⟩ := (HRq.put4 (.int .u8 2) (.int .i64 a) (.int .i64 c) (.int .i64 0)).c4
                   have h1 : minI c a = a := by unfold minI; split <;> omega
                   have h2 : maxI c a = c := by unfold maxI; split <;> omega
                   refine bodyPost_ret (by simp [results, Tryz.results113, go_sem, f0, f1, f2, f3]; try rfl) rfl ?_
                   exact ⟨by rw [HZ.out, HZ3.out, h1, h2]; rfl, put4_below HBq.out (by omega) _ _ _ _⟩)
                | (obtain ⟨f0, f1, f2, f3⟩ := (HRq.put4 (.int .u8 2) (.int .i64 c) (.int .i64 c) (.int .i64 0)).c4
                   have h1 : minI c a = c := by unfold minI; split <;> omega
                   have h2 : maxI c a = c := by unfold maxI; split <;> omega
                   refine bodyPost_ret (by simp [results, Tryz.results113, go_sem, f0, f1, f2, f3]; try rfl) rfl ?_
                   exact ⟨by rw [HZ.out, HZ3.out, h1, h2]; rfl, put4_below HBq.out (by omega) _ _ _ _⟩)
                | (obtain ⟨f0, f1, f2, f3⟩ := (HRq.put4 (.int .u8 2) (.int .i64 a) (.int .i64 a) (.int .i64 0)).c4
                   have h1 : minI c a = a := by unfold minI; split <;> omega
                   have h2 : maxI c a = a := by unfold maxI; split <;> omega
                   refine bodyPost_ret (by simp [results, Tryz.results113, go_sem, f0, f1, f2, f3]; try rfl) rfl ?_
                   exact ⟨by rw [HZ.out, HZ3.out, h1, h2]; rfl, put4_below HBq.out (by omega) _ _ _ _⟩)

end Go.Proofs.YtdoaniccefdkaaaGreatDoor
