/- trivetlaw15.MeshUndone: the walk where a mesh is made. -/
import Derived.Test.YthookkmgmholcaaGreatDoorQC2
namespace Go.Proofs.YthookkmgmholcaaGreatDoor
open Go.RowKit Go.Maps Go.WideMaps

/-- what holds ahead of each round -/
def Same (M M2 : MeshM) : Prop := Sound M2 ∧ M2.ap = M.ap ∧ M2.P = M.P

theorem same_make_kill {M : MeshM} (h : Sound M) {a b c : Int} (hc : makeCode M a b c = 0) : Same M (killR (makeR M a b c) c a b) :=
  ⟨killR_sound (makeR_sound h _ _ _) _ _ _, (make_kill hc).2.2, by rw [killR_P, makeR_P]⟩
theorem same_kill_make {M M2 : MeshM} (h : Same M M2) {a b c : Int} (e : M.ap a b = some c) : killCode M2 b c a = 0 ∧ makeCode (killR M2 b c a) a b c = 0 ∧ Same M (makeR (killR M2 b c a) a b c) := by
  obtain ⟨k1, k2, k3⟩ := kill_make h.1 (show M2.ap a b = some c by rw [h.2.1]; exact e)
  exact ⟨k1, k2, makeR_sound (killR_sound h.1 _ _ _) _ _ _, k3.trans h.2.1, by rw [makeR_P, killR_P]; exact h.2.2⟩

theorem trisL_short (ap : Int → Int → Option Int) (n : Nat) : (trisL ap n).length ≤ n * n := by
  unfold trisL
  rw [List.length_map]
  exact Nat.le_trans (List.length_filter_le _ _) (Nat.le_of_eq (idxL_len n))

theorem und_start {w0 w2 w3 w4 : World} {mb n : Nat} {M : MeshM} {F : Nat → Prop} {T : List Tri3} {E : List (Int × Int)} {ta ea : Option Addr} (hm2 : MB w0 w2 mb n M F) (hm4 : MB w0 w4 mb n M F) (hk3 : KCells encT w3 ta T) (hb4 : Below w3.heap.size w3 w4) (hb3 : Below w2.heap.size w2 w3)
    (hg3 : ∀ g, ta = some g → w2.heap.size < g.block ∧ g.block < w3.heap.size) (hk4 : KCells encP w4 ea E) (hg4 : ∀ g, ea = some g → w3.heap.size < g.block ∧ g.block < w4.heap.size) : Und w0 w4 mb n M F T E ta ea := by
  refine ⟨hm4, hk3.below hb4, hk4, fun g hg => ⟨fun e => ?_, ?_⟩, fun g hg => ⟨fun e => ?_, ?_⟩⟩
  · have := hm2.flt _ e; have := (hg3 g hg).1; omega
  · have := (hg3 g hg).2; have := hb4.size; omega
  · have := hm2.flt _ e; have := (hg4 g hg).1; have := hb3.size; omega
  · exact (hg4 g hg).2

set_option maxRecDepth 100000 in
set_option maxHeartbeats 8000000 in
theorem undone_main (l : List Pt) (ad : Option Addr) (cap : Nat) (T : List Tri3) (at_ : Option Addr) (capt : Nat) (m0 m1 m2 : Int) (i0 : i64ok m0) (i1 : i64ok m1) (i2 : i64ok m2) (h1 : l.length ≤ 100) (h2 : T.length ≤ 200) (h64 : ∀ p, p ∈ l → pt64 p) (hk : allCode l = 0) (w : World) (hc : PCells w ad l) (hct : TCells w at_ T) :
    Calls Tryz.prog 9 #[.slice ad l.length cap, .slice at_ T.length capt, .agg #[.int .i64 m0, .int .i64 m1, .int .i64 m2]] w fun r w' => r = .returned (.bool true) ∧ Below w.heap.size w w' := by
  have HW := Lib.hid works_walk
  have wa : Below w.heap.size w (w.alloc (.cells #[.int .i64 m0, .int .i64 m1, .int .i64 m2] 32)) := (Below.refl _ w).alloc (Nat.le_refl _) _
  have HMD := Lib.hid (fun w1 (hb : Below w.heap.size w w1) => made_ok l ad cap T at_ capt h64 hk (by omega) (by omega) w1 (hc.below hb) (hct.below hb))
  have h1z : ¬(100 : Int) < l.length := by omega
  have h2z : ¬(200 : Int) < T.length := by omega
  have HS := Lib.hid (madeM_sound l T)
  have HMP := Lib.hid (foldM_P T (emptyM l))
  have H64 := Lib.hid h64
  have HL1 := Lib.hid h1
  have HL2 := Lib.hid h2
  have HI : Hid (i64ok m0 ∧ i64ok m1 ∧ i64ok m2) := ⟨i0, i1, i2⟩
  clear h64 hk hc hct h1 h2 i0 i1 i2
  generalize hM : foldM (emptyM l) T = M at *
  have HP : Hid (M.P = l) := by unfold Hid; rw [HMP.out]; rfl
  have HPL : Hid (M.P.length ≤ 1048576) := by unfold Hid; rw [HP.out]; have := HL1.out; omega
  have HCN := Lib.hid (sound_cnt HS.out)
  have HT := Lib.hid (fun wa wb mb n F (h : MB wa wb mb n M F) => tris_mb h HS.out HPL.out)
  have HE := Lib.hid (fun wa wb mb n F (h : MB wa wb mb n M F) => edges_mb h HS.out HPL.out)
  have HMK := Lib.hid (fun wa wb mb n F (hn : n ≤ 1000000000) (h : MB wa wb mb n M F) => make_mb h (by rw [HP.out]; exact H64.out) HPL.out hn m0 m1 m2)
  clear hM HMP
  have HTL : Hid ((trisL M.ap M.P.length).length ≤ 10000) := by
    have := trisL_short M.ap M.P.length
    have h2 : M.P.length ≤ 100 := by rw [HP.out]; exact HL1.out
    have h3 : M.P.length * M.P.length ≤ 100 * 100 := Nat.mul_le_mul h2 h2
    exact Nat.le_trans this h3
  have HEL : Hid ((edgeL M.ap M.P.length).length ≤ 10000) := by
    have := edgeL_short M.ap M.P.length
    have h2 : M.P.length ≤ 100 := by rw [HP.out]; exact HL1.out
    have h3 : M.P.length * M.P.length ≤ 100 * 100 := Nat.mul_le_mul h2 h2
    exact Nat.le_trans this h3
  have hw64 : wrap64 (((trisL M.ap M.P.length).length : Int) + 1) = ((trisL M.ap M.P.length).length : Int) + 1 := by
    have := HTL.out
    unfold wrap64; omega
  have HBX : Hid (∀ w1, Below (w.alloc (.cells #[.int .i64 m0, .int .i64 m1, .int .i64 m2] 32)).heap.size (w.alloc (.cells #[.int .i64 m0, .int .i64 m1, .int .i64 m2] 32)) w1 → ∀ w2, Below w1.heap.size w1 w2 →
      w2.cell? ⟨w.heap.size, 0, none⟩ = some (.int .i64 m0) ∧ w2.cell? ⟨w.heap.size, 1, none⟩ = some (.int .i64 m1) ∧ w2.cell? ⟨w.heap.size, 2, none⟩ = some (.int .i64 m2)) := by
    intro w1 hb w2 hb2
    have hb3 := hb.trans (hb2.mono hb.size)
    have hs : w.heap.size < (w.alloc (.cells #[.int .i64 m0, .int .i64 m1, .int .i64 m2] 32)).heap.size := by simp
    refine ⟨(hb3.cell (p := ⟨w.heap.size, 0, none⟩) hs).trans ?_, (hb3.cell (p := ⟨w.heap.size, 1, none⟩) hs).trans ?_, (hb3.cell (p := ⟨w.heap.size, 2, none⟩) hs).trans ?_⟩ <;> (rw [World.cell?_alloc_at _ _ _ _ rfl]; rfl)
  by_cases hcode : makeCode M m0 m1 m2 = 0
  · have hkc := (make_kill hcode).2.1
    have HKK := Lib.hid (same_make_kill HS.out hcode)
    have HCT : Hid (∀ wa wb mb n F, MB wa wb mb n (makeR M m0 m1 m2) F → Calls Tryz.prog 39 #[.pointer (some ⟨mb, 0, none⟩)] wb fun r w' => r = .returned (.int .i64 ((trisL M.ap M.P.length).length + 1)) ∧ w' = wb) := fun wa wb mb n F h =>
      (count_mb h).mono fun r w' ⟨he, hw⟩ => ⟨by rw [he, (make_kill hcode).1, HCN.out], hw⟩
    have HKL := Lib.hid (fun wa wb mb n F (hn : n ≤ 1000000000) (h : MB wa wb mb n (makeR M m0 m1 m2) F) => kill_mb h hn HI.out.2.2 HI.out.1 HI.out.2.1)
    rw [hkc] at HKL
    rw [hcode] at HMK
    clear hkc hcode
    go_enter Tryz.func9, Tryz.ntmps9
    go_wp2_with (first
      | (go_at_call 36; with_reducible refine (HW.out _).mono ?_; rintro r w1 ⟨rfl, hb1⟩; have wb := wa.trans (hb1.mono wa.size); have HB2 := Lib.hid (HBX.out w1 hb1))
      | (go_at_call 37; with_reducible refine (HMD.out _ wb).mono ?_; rintro r w2 ⟨mb, F, rfl, hm2⟩)
      | (go_at_call 23; with_reducible refine (HT.out _ _ _ _ _ hm2).mono ?_; rintro r w3 ⟨ad3, cap3, rfl, hk3, hg3, hm3, hb3⟩)
      | (go_at_call 34; with_reducible refine (HE.out _ _ _ _ _ hm3).mono ?_; rintro r w4 ⟨ad4, cap4, rfl, hk4, hg4, hm4, hb4⟩; obtain ⟨x0, x1, x2⟩ := HB2.out _ hm4.keep)
      | (go_at_call 43; with_reducible refine (HMK.out _ _ _ _ _ ?_ hm4).mono ?_; (have := HL2.out; omega); rintro r w5 ⟨rfl, hm5, hs5⟩; obtain ⟨x0, x1, x2⟩ := HB2.out _ hm5.keep)
      | (go_at_call 39; with_reducible refine (HCT.out _ _ _ _ _ hm5).mono ?_; rintro r w6 ⟨rfl, rfl⟩)
      | (go_at_call 44; with_reducible refine (HKL.out _ _ _ _ _ ?_ hm5).mono ?_; (have := HL2.out; omega); rintro r w7 ⟨rfl, hm7, hs7⟩))
    have HU7 := ((und_start hm2 hm4 hk3 hb4 hb3 hg3 hk4 hg4).stay hm5 hs5).stay hm7 hs7
    have HUU : Hid (∃ n M2 F2, n ≤ 700 ∧ Und w1 w7 mb n M2 F2 (trisL M.ap M.P.length) (edgeL M.ap M.P.length) ad3 ad4 ∧ Same M M2) := ⟨_, _, _, by have := HL2.out; omega, HU7, HKK.out⟩
    clear HU7 hm2 hm3 hm4 hm5 hm7 hs5 hs7 hk3 hk4 hg3 hg4 hb3 hb4 x0 x1 x2 hw64 hb1
    go_loopw [11] (fun s11 wr => ∃ (k n : Nat) (M2 : MeshM) (F2 : Nat → Prop), k ≤ (trisL M.ap M.P.length).length ∧ s11 = .int .i64 k ∧ n ≤ 700 + 6 * k ∧ Hid (Und w1 wr mb n M2 F2 (trisL M.ap M.P.length) (edgeL M.ap M.P.length) ad3 ad4) ∧ Hid (Same M M2)) (fun i _ => (trisL M.ap M.P.length).length - (intOf i).toNat)
    case atStart =>
      obtain ⟨n, M2, F2, h1, h2, h3⟩ := HUU.out
      exact ⟨0, n, M2, F2, Nat.zero_le _, rfl, by omega, h2, h3⟩
    case round =>
      obtain ⟨k, n, M2, F2, hk, rfl, hn, HU, HSM⟩ := hrel
      have HN : Hid (n ≤ 100000) := by unfold Hid; have := HTL.out; omega
      by_cases hlt : k < (trisL M.ap M.P.length).length
      · obtain ⟨g, hg, _⟩ := HU.out.t.tri hlt
        obtain ⟨t, ht⟩ : ∃ t, (trisL M.ap M.P.length).getD k (0, 0, 0) = t := ⟨_, rfl⟩
        obtain ⟨x, y, z⟩ := t
        have hmem : (x, y, z) ∈ trisL M.ap M.P.length := ht ▸ getD_mem3 hlt
        have hap := ((mem_trisL HS.out.win _).1 hmem).1
        dsimp only at hap
        have HRD := Lib.hid (fun wb (u : ∃ n M2 F2, Und w1 wb mb n M2 F2 (trisL M.ap M.P.length) (edgeL M.ap M.P.length) ad3 ad4) => u.elim fun n u => u.elim fun M2 u => u.elim fun F2 u => Und.rd u hlt hg ht)
        obtain ⟨k1, k2, k3⟩ := same_kill_make HSM.out hap
        have HK3 := Lib.hid k3
        have hi64 := HS.out.i64 HPL.out hap
        have HK1 := Lib.hid (kill_mb HU.out.drew.mb (by have := HN.out; omega) hi64.2.1 hi64.2.2 hi64.1)
        rw [k1] at HK1
        have HPK : Hid ((killR M2 y z x).P = l) := by unfold Hid; rw [killR_P, HSM.out.2.2, HP.out]
        have HM1 := Lib.hid (fun wb n F (hn : n ≤ 1000000000) (h : MB w1 wb mb n (killR M2 y z x) F) => make_mb h (by rw [HPK.out]; exact H64.out) (by rw [HPK.out]; have := HL1.out; omega) hn x y z)
        rw [k2] at HM1
        have r0 := HRD.out wr ⟨_, _, _, HU.out⟩
        subst hg
        have r0x := r0.1
        have r0y := r0.2.1
        have r0z := r0.2.2
        clear hmem hap k1 k2 k3 hi64 ht
        go_wp2
        go_region_held3 (fun w' => w'.cell? ⟨g, k * 3, none⟩ = some (.int .i64 x) ∧ w'.cell? ⟨g, k * 3 + 1, none⟩ = some (.int .i64 y) ∧ w'.cell? ⟨g, k * 3 + 2, none⟩ = some (.int .i64 z)) (first | assumption | exact r0 | exact r8 | exact r9)
          (first
            | (go_at_call 44; with_reducible refine HK1.out.mono ?_; rintro r w8 ⟨rfl, hm8, hs8⟩; have u8 := (HU.out.drew).stay hm8 hs8; have r8 := HRD.out w8 ⟨_, _, _, u8⟩)
            | (go_at_call 43; with_reducible refine (HM1.out _ _ _ ?_ hm8).mono ?_; (have := HN.out; omega); rintro r w9 ⟨rfl, hm9, hs9⟩; have u9 := u8.stay hm9 hs9; have r9 := HRD.out w9 ⟨_, _, _, u9⟩))
        all_goals
          have HU9 := Lib.hid u9
          clear r0 r0x r0y r0z r8 r9 u8 u9 hm8 hs8 hm9 hs9
          go_wp2
          go_roundw
          case rel => exact ⟨k + 1, _, _, _, by omega, (by have := HTL.out; first | rfl | rw [wrapS (by omega)]), by omega, HU9.out, HK3.out⟩
          case measure => have := HTL.out; first | (simp [intOf]; omega) | (rw [wrapS (by omega)]; simp [intOf]; omega)
      · have e : k = (trisL M.ap M.P.length).length := by omega
        subst e
        clear hlt hk hn
        have HT2 : Hid (Calls Tryz.prog 23 #[.pointer (some ⟨mb, 0, none⟩)] wr fun r w' => ∃ ad cap, r = .returned (.slice ad (trisL M.ap M.P.length).length cap) ∧ KCells encT w' ad (trisL M.ap M.P.length) ∧ MB w1 w' mb n M2 F2 ∧ Below wr.heap.size wr w') := by
          refine (tris_mb HU.out.mb HSM.out.1 (by rw [HSM.out.2.2]; exact HPL.out)).mono ?_
          rw [HSM.out.2.1, HSM.out.2.2]
          rintro r w' ⟨ad, cap, h1, h2, _, h4, h5⟩
          exact ⟨ad, cap, h1, h2, h4, h5⟩
        have HE2 : Hid (∀ wb, MB w1 wb mb n M2 F2 → Calls Tryz.prog 34 #[.pointer (some ⟨mb, 0, none⟩)] wb fun r w' => ∃ ad cap, r = .returned (.slice ad (edgeL M.ap M.P.length).length cap) ∧ KCells encP w' ad (edgeL M.ap M.P.length) ∧ MB w1 w' mb n M2 F2 ∧ Below wb.heap.size wb w') := by
          intro wb hwb
          refine (edges_mb hwb HSM.out.1 (by rw [HSM.out.2.2]; exact HPL.out)).mono ?_
          rw [HSM.out.2.1, HSM.out.2.2]
          rintro r w' ⟨ad, cap, h1, h2, _, h4, h5⟩
          exact ⟨ad, cap, h1, h2, h4, h5⟩
        have HST := Lib.hid (fun ad cap wb (h1 : KCells encT wb ad (trisL M.ap M.P.length)) (h2 : Below wr.heap.size wr wb) => sameTris_walk _ ad ad3 cap cap3 wb h1 (HU.out.t.below h2) (by have := HTL.out; omega))
        have HSE := Lib.hid (fun ad cap wb (h1 : KCells encP wb ad (edgeL M.ap M.P.length)) (h2 : Below wr.heap.size wr wb) => samePairs_walk _ ad ad4 cap cap4 wb h1 (HU.out.e.below h2) (by have := HEL.out; omega))
        go_wp2_with (first
          | (go_at_call 23; with_reducible refine HT2.out.mono ?_; rintro r w8 ⟨ad8, cap8, rfl, hk8, hm8, hb8⟩)
          | (go_at_call 25; with_reducible refine (HST.out _ _ _ hk8 hb8).mono ?_; rintro r w9 ⟨rfl, hb9⟩; have hm9 := hm8.below hb9; have hc9 := hb8.trans (hb9.mono hb8.size))
          | (go_at_call 34; with_reducible refine (HE2.out _ hm9).mono ?_; rintro r w10 ⟨ad10, cap10, rfl, hk10, hm10, hb10⟩; have hc10 := hc9.trans (hb10.mono hc9.size))
          | (go_at_call 42; with_reducible refine (HSE.out _ _ _ hk10 hc10).mono ?_; rintro r w11 ⟨rfl, hb11⟩; have hm11 := hm10.below hb11))
        go_ret
        exact ⟨rfl, wb.trans (hm11.keep.mono wb.size)⟩
  · have hR : makeR M m0 m1 m2 = M := by unfold makeR; rw [if_neg hcode]
    rw [hR] at HMK
    have HSS : Hid (Same M M) := ⟨HS.out, rfl, rfl⟩
    have HCD := Lib.hid hcode
    generalize hcd : makeCode M m0 m1 m2 = code at *
    have hcz : (code == 0) = false := by simpa using HCD.out
    clear hcd hR hcode
    go_enter Tryz.func9, Tryz.ntmps9
    go_wp2_with (first
      | (go_at_call 36; with_reducible refine (HW.out _).mono ?_; rintro r w1 ⟨rfl, hb1⟩; have wb := wa.trans (hb1.mono wa.size); have HB2 := Lib.hid (HBX.out w1 hb1))
      | (go_at_call 37; with_reducible refine (HMD.out _ wb).mono ?_; rintro r w2 ⟨mb, F, rfl, hm2⟩)
      | (go_at_call 23; with_reducible refine (HT.out _ _ _ _ _ hm2).mono ?_; rintro r w3 ⟨ad3, cap3, rfl, hk3, hg3, hm3, hb3⟩)
      | (go_at_call 34; with_reducible refine (HE.out _ _ _ _ _ hm3).mono ?_; rintro r w4 ⟨ad4, cap4, rfl, hk4, hg4, hm4, hb4⟩; obtain ⟨x0, x1, x2⟩ := HB2.out _ hm4.keep)
      | (go_at_call 43; with_reducible refine (HMK.out _ _ _ _ _ ?_ hm4).mono ?_; (have := HL2.out; omega); rintro r w5 ⟨rfl, hm5, hs5⟩))
    have HU5 := (und_start hm2 hm4 hk3 hb4 hb3 hg3 hk4 hg4).stay hm5 hs5
    have HUU : Hid (∃ n M2 F2, n ≤ 700 ∧ Und w1 w5 mb n M2 F2 (trisL M.ap M.P.length) (edgeL M.ap M.P.length) ad3 ad4 ∧ Same M M2) := ⟨_, _, _, by have := HL2.out; omega, HU5, HSS.out⟩
    clear HU5 hm2 hm3 hm4 hm5 hs5 hk3 hk4 hg3 hg4 hb3 hb4 x0 x1 x2 hw64 hb1 hcz
    go_loopw [11] (fun s11 wr => ∃ (k n : Nat) (M2 : MeshM) (F2 : Nat → Prop), k ≤ (trisL M.ap M.P.length).length ∧ s11 = .int .i64 k ∧ n ≤ 700 + 6 * k ∧ Hid (Und w1 wr mb n M2 F2 (trisL M.ap M.P.length) (edgeL M.ap M.P.length) ad3 ad4) ∧ Hid (Same M M2)) (fun i _ => (trisL M.ap M.P.length).length - (intOf i).toNat)
    case atStart =>
      obtain ⟨n, M2, F2, h1, h2, h3⟩ := HUU.out
      exact ⟨0, n, M2, F2, Nat.zero_le _, rfl, by omega, h2, h3⟩
    case round =>
      obtain ⟨k, n, M2, F2, hk, rfl, hn, HU, HSM⟩ := hrel
      have HN : Hid (n ≤ 100000) := by unfold Hid; have := HTL.out; omega
      by_cases hlt : k < (trisL M.ap M.P.length).length
      · obtain ⟨g, hg, _⟩ := HU.out.t.tri hlt
        obtain ⟨t, ht⟩ : ∃ t, (trisL M.ap M.P.length).getD k (0, 0, 0) = t := ⟨_, rfl⟩
        obtain ⟨x, y, z⟩ := t
        have hmem : (x, y, z) ∈ trisL M.ap M.P.length := ht ▸ getD_mem3 hlt
        have hap := ((mem_trisL HS.out.win _).1 hmem).1
        dsimp only at hap
        have HRD := Lib.hid (fun wb (u : ∃ n M2 F2, Und w1 wb mb n M2 F2 (trisL M.ap M.P.length) (edgeL M.ap M.P.length) ad3 ad4) => u.elim fun n u => u.elim fun M2 u => u.elim fun F2 u => Und.rd u hlt hg ht)
        obtain ⟨k1, k2, k3⟩ := same_kill_make HSM.out hap
        have HK3 := Lib.hid k3
        have hi64 := HS.out.i64 HPL.out hap
        have HK1 := Lib.hid (kill_mb HU.out.drew.mb (by have := HN.out; omega) hi64.2.1 hi64.2.2 hi64.1)
        rw [k1] at HK1
        have HPK : Hid ((killR M2 y z x).P = l) := by unfold Hid; rw [killR_P, HSM.out.2.2, HP.out]
        have HM1 := Lib.hid (fun wb n F (hn : n ≤ 1000000000) (h : MB w1 wb mb n (killR M2 y z x) F) => make_mb h (by rw [HPK.out]; exact H64.out) (by rw [HPK.out]; have := HL1.out; omega) hn x y z)
        rw [k2] at HM1
        have r0 := HRD.out wr ⟨_, _, _, HU.out⟩
        subst hg
        have r0x := r0.1
        have r0y := r0.2.1
        have r0z := r0.2.2
        clear hmem hap k1 k2 k3 hi64 ht
        go_wp2
        go_region_held3 (fun w' => w'.cell? ⟨g, k * 3, none⟩ = some (.int .i64 x) ∧ w'.cell? ⟨g, k * 3 + 1, none⟩ = some (.int .i64 y) ∧ w'.cell? ⟨g, k * 3 + 2, none⟩ = some (.int .i64 z)) (first | assumption | exact r0 | exact r8 | exact r9)
          (first
            | (go_at_call 44; with_reducible refine HK1.out.mono ?_; rintro r w8 ⟨rfl, hm8, hs8⟩; have u8 := (HU.out.drew).stay hm8 hs8; have r8 := HRD.out w8 ⟨_, _, _, u8⟩)
            | (go_at_call 43; with_reducible refine (HM1.out _ _ _ ?_ hm8).mono ?_; (have := HN.out; omega); rintro r w9 ⟨rfl, hm9, hs9⟩; have u9 := u8.stay hm9 hs9; have r9 := HRD.out w9 ⟨_, _, _, u9⟩))
        all_goals
          have HU9 := Lib.hid u9
          clear r0 r0x r0y r0z r8 r9 u8 u9 hm8 hs8 hm9 hs9
          go_wp2
          go_roundw
          case rel => exact ⟨k + 1, _, _, _, by omega, (by have := HTL.out; first | rfl | rw [wrapS (by omega)]), by omega, HU9.out, HK3.out⟩
          case measure => have := HTL.out; first | (simp [intOf]; omega) | (rw [wrapS (by omega)]; simp [intOf]; omega)
      · have e : k = (trisL M.ap M.P.length).length := by omega
        subst e
        clear hlt hk hn
        have HT2 : Hid (Calls Tryz.prog 23 #[.pointer (some ⟨mb, 0, none⟩)] wr fun r w' => ∃ ad cap, r = .returned (.slice ad (trisL M.ap M.P.length).length cap) ∧ KCells encT w' ad (trisL M.ap M.P.length) ∧ MB w1 w' mb n M2 F2 ∧ Below wr.heap.size wr w') := by
          refine (tris_mb HU.out.mb HSM.out.1 (by rw [HSM.out.2.2]; exact HPL.out)).mono ?_
          rw [HSM.out.2.1, HSM.out.2.2]
          rintro r w' ⟨ad, cap, h1, h2, _, h4, h5⟩
          exact ⟨ad, cap, h1, h2, h4, h5⟩
        have HE2 : Hid (∀ wb, MB w1 wb mb n M2 F2 → Calls Tryz.prog 34 #[.pointer (some ⟨mb, 0, none⟩)] wb fun r w' => ∃ ad cap, r = .returned (.slice ad (edgeL M.ap M.P.length).length cap) ∧ KCells encP w' ad (edgeL M.ap M.P.length) ∧ MB w1 w' mb n M2 F2 ∧ Below wb.heap.size wb w') := by
          intro wb hwb
          refine (edges_mb hwb HSM.out.1 (by rw [HSM.out.2.2]; exact HPL.out)).mono ?_
          rw [HSM.out.2.1, HSM.out.2.2]
          rintro r w' ⟨ad, cap, h1, h2, _, h4, h5⟩
          exact ⟨ad, cap, h1, h2, h4, h5⟩
        have HST := Lib.hid (fun ad cap wb (h1 : KCells encT wb ad (trisL M.ap M.P.length)) (h2 : Below wr.heap.size wr wb) => sameTris_walk _ ad ad3 cap cap3 wb h1 (HU.out.t.below h2) (by have := HTL.out; omega))
        have HSE := Lib.hid (fun ad cap wb (h1 : KCells encP wb ad (edgeL M.ap M.P.length)) (h2 : Below wr.heap.size wr wb) => samePairs_walk _ ad ad4 cap cap4 wb h1 (HU.out.e.below h2) (by have := HEL.out; omega))
        go_wp2_with (first
          | (go_at_call 23; with_reducible refine HT2.out.mono ?_; rintro r w8 ⟨ad8, cap8, rfl, hk8, hm8, hb8⟩)
          | (go_at_call 25; with_reducible refine (HST.out _ _ _ hk8 hb8).mono ?_; rintro r w9 ⟨rfl, hb9⟩; have hm9 := hm8.below hb9; have hc9 := hb8.trans (hb9.mono hb8.size))
          | (go_at_call 34; with_reducible refine (HE2.out _ hm9).mono ?_; rintro r w10 ⟨ad10, cap10, rfl, hk10, hm10, hb10⟩; have hc10 := hc9.trans (hb10.mono hc9.size))
          | (go_at_call 42; with_reducible refine (HSE.out _ _ _ hk10 hc10).mono ?_; rintro r w11 ⟨rfl, hb11⟩; have hm11 := hm10.below hb11))
        go_ret
        exact ⟨rfl, wb.trans (hm11.keep.mono wb.size)⟩

end Go.Proofs.YthookkmgmholcaaGreatDoor
