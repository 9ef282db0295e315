/- trivetlaw16.WalkSeeds: the walk. -/
import Derived.Test.YtdoaniccefdkaaaGreatDoorQRA
set_option linter.all false
namespace Go.Proofs.YtdoaniccefdkaaaGreatDoor
open Go.RowKit Tvf Go.Maps Go.WideMaps

set_option maxRecDepth 100000 in
set_option maxHeartbeats 1000000 in
theorem seeds_big (l : List Pt) (ad : Option Addr) (cap : Nat) (T : List Tri3) (at_ : Option Addr) (capt : Nat) (p : Pt) (v u : Value) (hb : 40 < l.length ∨ 100 < T.length) (w : World) :
    Calls Tryz.prog 11 #[.slice ad l.length cap, .slice at_ T.length capt, V p, v, u] w fun r w' => r = .returned (.bool true) ∧ Below w.heap.size w w' := by
  have HW := Lib.hid awake16_walk
  have HB0 : Hid (Below w.heap.size w (w.alloc (.cells #[.float .f64 p.1, .float .f64 p.2] 52))) := (Below.refl _ w).alloc (Nat.le_refl _) _
  unfold V
  by_cases h1 : 40 < l.length
  · have h1z : (40 : Int) < l.length := by omega
    clear hb
    go_enter Tryz.func11, Tryz.ntmps11
    go_wp2_with (go_at_call 49; with_reducible refine (HW.out _).mono ?_; rintro r w1 ⟨rfl, hb1⟩)
    go_ret
    exact ⟨rfl, bseq HB0.out hb1⟩
  · have h2 : 100 < T.length := hb.resolve_left h1
    have h1z : ¬(40 : Int) < l.length := by omega
    have h2z : (100 : Int) < T.length := by omega
    clear hb
    go_enter Tryz.func11, Tryz.ntmps11
    go_wp2_with (go_at_call 49; with_reducible refine (HW.out _).mono ?_; rintro r w1 ⟨rfl, hb1⟩)
    go_ret
    exact ⟨rfl, bseq HB0.out hb1⟩

set_option maxRecDepth 100000 in
set_option maxHeartbeats 1000000 in
theorem seeds_nil (l : List Pt) (ad : Option Addr) (cap : Nat) (T : List Tri3) (at_ : Option Addr) (capt : Nat) (p : Pt) (v u : Value) (h1 : l.length ≤ 40) (h2 : T.length ≤ 100) (h64 : ∀ p, p ∈ l → pt64 p) (hk : allCode l ≠ 0) (w : World) (hc : PCells w ad l) :
    Calls Tryz.prog 11 #[.slice ad l.length cap, .slice at_ T.length capt, V p, v, u] w fun r w' => r = .returned (.bool true) ∧ Below w.heap.size w w' := by
  have HW := Lib.hid awake16_walk
  have HB0 : Hid (Below w.heap.size w (w.alloc (.cells #[.float .f64 p.1, .float .f64 p.2] 52))) := (Below.refl _ w).alloc (Nat.le_refl _) _
  have HN := Lib.hid (fun W (hb : Below w.heap.size w W) => made16_nil l ad cap (.slice at_ T.length capt) h64 hk W (hc.below hb))
  have h1z : ¬(40 : Int) < l.length := by omega
  have h2z : ¬(100 : Int) < T.length := by omega
  unfold V
  clear h64 hk hc
  go_enter Tryz.func11, Tryz.ntmps11
  go_wp2_with (first
    | (go_at_call 49; with_reducible refine (HW.out _).mono ?_; rintro r w2 ⟨rfl, hb2⟩; have B1 := Lib.hid (bseq HB0.out hb2))
    | (go_at_call 50; with_reducible refine (HN.out _ B1.out).mono ?_; rintro r w1 ⟨rfl, hb1⟩; have B2 := Lib.hid (bseq B1.out hb1)))
  go_ret
  exact ⟨rfl, B2.out⟩

set_option maxRecDepth 100000 in
set_option maxHeartbeats 4000000 in
theorem seeds_bad (l : List Pt) (ad : Option Addr) (cap : Nat) (T : List Tri3) (at_ : Option Addr) (capt : Nat) (p : Pt) (v u : Value) (h1 : l.length ≤ 40) (h2 : T.length ≤ 100) (h64 : ∀ p, p ∈ l → pt64 p) (hk : allCode l = 0) (hp : pt64 p) (hpk : ptOK p = false) (w : World) (hc : PCells w ad l) (hct : TCells w at_ T) :
    Calls Tryz.prog 11 #[.slice ad l.length cap, .slice at_ T.length capt, V p, v, u] w fun r w' => r = .returned (.bool true) ∧ Below w.heap.size w w' := by
  have HW := Lib.hid awake16_walk
  obtain ⟨W0, hW0⟩ : ∃ W0 : World, W0 = w.alloc (.cells #[.float .f64 p.1, .float .f64 p.2] 52) := ⟨_, rfl⟩
  have HB0 : Hid (Below w.heap.size w W0) := by rw [hW0]; exact (Below.refl _ w).alloc (Nat.le_refl _) _
  have HPB : Hid (∀ W, Below W0.heap.size W0 W → W.cell? ⟨w.heap.size, 0, none⟩ = some (.float .f64 p.1) ∧ W.cell? ⟨w.heap.size, 1, none⟩ = some (.float .f64 p.2)) := fun W hb => by
    have h2 := new2 w (.float .f64 p.1) (.float .f64 p.2) 52
    rw [hW0] at hb
    exact ⟨cell_keep h2.1 hb, cell_keep h2.2 hb⟩
  have HWW := Lib.hid hW0
  have HMD := Lib.hid (fun W (hb : Below w.heap.size w W) => made16_ok l ad cap T at_ capt h64 hk (by omega) (by omega) W (hc.below hb) (hct.below hb))
  have HMY : Hid (∀ W, Calls Tryz.prog 53 #[.agg #[.float .f64 p.1, .float .f64 p.2]] W fun r w' => r = .returned (.bool false) ∧ Below W.heap.size W w') := fun W => by have := may16 hp W; rw [hpk] at this; exact this
  have h1z : ¬(40 : Int) < l.length := by omega
  have h2z : ¬(100 : Int) < T.length := by omega
  clear h64 hk hc hct hp hpk h1 h2 hW0
  generalize (goodL (emptyM l) T) = G at *
  generalize foldM (emptyM l) T = M at *
  unfold V
  obtain ⟨t0, t1⟩ := HPB.out _ (Below.refl _ _)
  go_enter Tryz.func11, Tryz.ntmps11
  go_upto_region 1 with fail
  rw [← HWW.out]
  go_wp2_with (first
    | (go_at_call 49; (with_reducible refine (HW.out _).mono ?_); rintro r w6 ⟨rfl, hb6⟩; have C0 := Lib.hid hb6; clear t0 t1; obtain ⟨t0, t1⟩ := HPB.out _ C0.out)
    | (go_at_call 50; (with_reducible refine (HMD.out _ (bseq HB0.out C0.out)).mono ?_); rintro r w1 ⟨mb, F, a1, c1, rfl, hm1, hk1, _⟩; have C1 := Lib.hid (bseq C0.out hm1.keep); clear hm1 hk1 t0 t1; obtain ⟨t0, t1⟩ := HPB.out _ C1.out)
    | (go_at_call 53; (with_reducible refine (HMY.out _).mono ?_); rintro r w4 ⟨rfl, hb4⟩; have C4 := Lib.hid (bseq C1.out hb4)))
  go_ret
  exact ⟨rfl, bseq HB0.out C4.out⟩

set_option maxRecDepth 100000 in
set_option maxHeartbeats 8000000 in
theorem seeds_ok (l : List Pt) (ad : Option Addr) (cap : Nat) (T : List Tri3) (at_ : Option Addr) (capt : Nat) (p : Pt) (s u : Nat) (hs : s < 18446744073709551616) (hu : u < 18446744073709551616) (h1 : l.length ≤ 40) (h2 : T.length ≤ 100) (h64 : ∀ p, p ∈ l → pt64 p) (hk : allCode l = 0) (hp : pt64 p) (hpk : ptOK p = true) (w : World) (hc : PCells w ad l) (hct : TCells w at_ T) :
    Calls Tryz.prog 11 #[.slice ad l.length cap, .slice at_ T.length capt, V p, .int .u64 s, .int .u64 u] w fun r w' => r = .returned (.bool true) ∧ Below w.heap.size w w' := by
  have HW := Lib.hid awake16_walk
  obtain ⟨W0, hW0⟩ : ∃ W0 : World, W0 = w.alloc (.cells #[.float .f64 p.1, .float .f64 p.2] 52) := ⟨_, rfl⟩
  have HB0 : Hid (Below w.heap.size w W0) := by rw [hW0]; exact (Below.refl _ w).alloc (Nat.le_refl _) _
  have HPB : Hid (∀ W, Below W0.heap.size W0 W → W.cell? ⟨w.heap.size, 0, none⟩ = some (.float .f64 p.1) ∧ W.cell? ⟨w.heap.size, 1, none⟩ = some (.float .f64 p.2)) := fun W hb => by
    have h2 := new2 w (.float .f64 p.1) (.float .f64 p.2) 52
    rw [hW0] at hb
    exact ⟨cell_keep h2.1 hb, cell_keep h2.2 hb⟩
  have HWW := Lib.hid hW0
  have HMD := Lib.hid (fun W (hb : Below w.heap.size w W) => made16_ok l ad cap T at_ capt h64 hk (by omega) (by omega) W (hc.below hb) (hct.below hb))
  have HPO : Hid (PtO p) := ⟨hp, hpk⟩
  have HOK : Hid (∀ q, q ∈ l → PtO q) := fun q hq => ⟨h64 q hq, by
    unfold allCode at hk
    split at hk
    · cases hk
    · split at hk
      · rename_i h; exact List.all_eq_true.1 h q hq
      · cases hk⟩
  have HTW : Hid (Twin (foldM (emptyM l) T) (goodL (emptyM l) T)) := by have := twin_good T (Twin.empty l); rwa [List.nil_append] at this
  have HPM : Hid ((foldM (emptyM l) T).P = l) := by unfold Hid; rw [foldM_P]; rfl
  have HGL : Hid ((goodL (emptyM l) T).length ≤ 100) := Nat.le_trans (goodL_len T (emptyM l)) h2
  generalize foldM (emptyM l) T = M at *
  generalize goodL (emptyM l) T = G at *
  have HFD : Hid (Fnd M G l p) := ⟨HTW.out, HPM.out, HOK.out, HPO.out⟩
  have HFS := Lib.hid (HFD.out.finds s)
  have HFU := Lib.hid (HFD.out.finds u)
  have HFI : Hid (∀ W W' mb n F (x : Nat), MB W W' mb n M F → x < 18446744073709551616 → ∀ W2, Below W'.heap.size W' W2 → Calls Tryz.prog 51 #[.pointer (some ⟨mb, 0, none⟩), .agg #[.float .f64 p.1, .float .f64 p.2], .int .u64 x] W2 fun r w' => r = .returned (.tuple #[.agg #[.int .u8 (findM M p x).k, .int .i64 (findM M p x).a, .int .i64 (findM M p x).b, .int .i64 (findM M p x).c], .int .i64 0]) ∧ Below W2.heap.size W2 w') := fun W W' mb n F x hm hx W2 hb => find_main (hm.below hb).at_ (by rw [HPM.out]; exact h64) HTW.out.s (by rw [HPM.out]; omega) p hp hpk x hx
  have HFIs := Lib.hid (fun W W' mb n F hm => HFI.out W W' mb n F s hm hs)
  have HFIu := Lib.hid (fun W W' mb n F hm => HFI.out W W' mb n F u hm hu)
  have HMY : Hid (∀ W, Calls Tryz.prog 53 #[.agg #[.float .f64 p.1, .float .f64 p.2]] W fun r w' => r = .returned (.bool true) ∧ Below W.heap.size W w') := fun W => by have := may16 hp W; rw [hpk] at this; exact this
  have HPL : Hid ((plL l G p).length ≤ 10000) := by
    have := plK_len l G p G.length 0 (by omega)
    rw [plK_all] at this
    have := HGL.out
    unfold Hid; omega
  have HRG : Hid (∀ t, t ∈ G → ∀ k, k < 3 → 0 ≤ tvT t k ∧ tvT t k < l.length) := fun t ht k hk => by
    have h3 := HTW.out.s.within3 (HFD.out.fwd ht).1
    rw [HPM.out] at h3
    have h4 : k = 0 ∨ k = 1 ∨ k = 2 := by omega
    rcases h4 with rfl | rfl | rfl
    · exact h3.1
    · exact h3.2.1
    · exact h3.2.2
  have HPS : Hid (∀ W at2 ct2, Below w.heap.size w W → KCells encT W at2 G → Calls Tryz.prog 56 #[.slice ad l.length cap, .slice at2 G.length ct2, .agg #[.float .f64 p.1, .float .f64 p.2]] W fun r w' => ∃ v, r = .returned v ∧ Hid (LR W w' v (plL l G p))) := fun W at2 ct2 hb hk => places16 (hc.below hb) hk HOK.out HPO.out HRG.out HTW.out.ne (by omega) (by have := HGL.out; omega)
  have HLN := Lib.hid HPL.out
  have HSAME : Hid ((∀ i, i < (plL l G p).length → (plL l G p).getD i plc0 = (plL l G p).getD 0 plc0) → findM M p s = findM M p u) := fun h => by
    have key : ∀ x, x ∈ plL l G p → x = (plL l G p).getD 0 plc0 := fun x hx => by
      obtain ⟨i, hi, rfl⟩ := List.getElem_of_mem hx
      rw [← getD_plc hi]; exact h i hi
    rcases HFS.out with ⟨a1, a2⟩ | a
    · rcases HFU.out with ⟨b1, b2⟩ | b
      · rw [a2, b2]
      · rw [a1] at b; simp at b
    · rcases HFU.out with ⟨b1, b2⟩ | b
      · rw [b1] at a; simp at a
      · rw [key _ a, key _ b]
  have h1z : ¬(40 : Int) < l.length := by omega
  have h2z : ¬(100 : Int) < T.length := by omega
  have hEQ : ∀ W, (binOp .eql 87 (.agg #[.int .u8 (findM M p s).k, .int .i64 (findM M p s).a, .int .i64 (findM M p s).b, .int .i64 (findM M p s).c]) (.agg #[.int .u8 (findM M p u).k, .int .i64 (findM M p u).a, .int .i64 (findM M p u).b, .int .i64 (findM M p u).c])).run Tryz.prog W = .ok (.bool (plcB (findM M p s) (findM M p u))) W := fun W => eqlWalk (findM M p s) (findM M p u) W
  have HEB : Hid (findM M p s = findM M p u → plcB (findM M p s) (findM M p u) = true) := (plcB_iff _ _).2
  clear h64 hk hc hct hp hpk h1 h2 hs hu hW0 HFD HTW HPM HPO HOK HRG HGL HFS HFU HFI
  generalize plcB (findM M p s) (findM M p u) = sb at *
  generalize plL l G p = L at *
  generalize (findM M p s).k = z0 at *
  generalize (findM M p s).a = z1 at *
  generalize (findM M p s).b = z2 at *
  generalize (findM M p s).c = z3 at *
  generalize (findM M p u).k = y0 at *
  generalize (findM M p u).a = y1 at *
  generalize (findM M p u).b = y2 at *
  generalize (findM M p u).c = y3 at *
  have HSB : Hid ((∀ i, i < L.length → L.getD i plc0 = L.getD 0 plc0) → sb = true) := fun h => HEB.out (HSAME.out h)
  clear HSAME HEB
  unfold V
  obtain ⟨t0, t1⟩ := HPB.out _ (Below.refl _ _)
  go_enter Tryz.func11, Tryz.ntmps11
  go_upto_region 1 with fail
  rw [← HWW.out]
  go_wp2_with (first
    | (go_at_call 49; (with_reducible refine (HW.out _).mono ?_); rintro r w6 ⟨rfl, hb6⟩; have C0 := Lib.hid hb6; clear t0 t1; obtain ⟨t0, t1⟩ := HPB.out _ C0.out)
    | (go_at_call 50; (with_reducible refine (HMD.out _ (bseq HB0.out C0.out)).mono ?_); rintro r w1 ⟨mb, F, a1, c1, rfl, hm1, hk1, _⟩; have HM1 := Lib.hid hm1; have HK1 := Lib.hid hk1; have C1 := Lib.hid (bseq C0.out hm1.keep); clear hm1 hk1 t0 t1; obtain ⟨t0, t1⟩ := HPB.out _ C1.out)
    | (go_at_call 53; (with_reducible refine (HMY.out _).mono ?_); rintro r w2 ⟨rfl, hb2⟩; have D2 := Lib.hid hb2; have C2 := Lib.hid (bseq C1.out hb2); clear t0 t1 hb2; obtain ⟨t0, t1⟩ := HPB.out _ C2.out)
    | (go_at_call 51; (with_reducible refine (HFIs.out _ _ _ _ _ HM1.out _ D2.out).mono ?_); rintro r w3 ⟨rfl, hb3⟩; have D3 := Lib.hid (bseq D2.out (hb3.alloc hb3.size (.cells #[.int .u8 z0, .int .i64 z1, .int .i64 z2, .int .i64 z3] 87))); have X3 := Lib.hid (BoxN.new w3 #[.int .u8 z0, .int .i64 z1, .int .i64 z2, .int .i64 z3] 87); have C3 := Lib.hid (bseq C2.out (hb3.alloc hb3.size (.cells #[.int .u8 z0, .int .i64 z1, .int .i64 z2, .int .i64 z3] 87))); clear t0 t1 hb3; obtain ⟨t0, t1⟩ := HPB.out _ C3.out)
    | (go_at_call 51; (with_reducible refine (HFIu.out _ _ _ _ _ HM1.out _ D3.out).mono ?_); rintro r w4 ⟨rfl, hb4⟩; have D4 := Lib.hid (bseq D3.out (hb4.alloc hb4.size (.cells #[.int .u8 y0, .int .i64 y1, .int .i64 y2, .int .i64 y3] 87))); have X4 := Lib.hid (X3.out.below (hb4.alloc hb4.size (.cells #[.int .u8 y0, .int .i64 y1, .int .i64 y2, .int .i64 y3] 87))); have Y4 := Lib.hid (BoxN.new w4 #[.int .u8 y0, .int .i64 y1, .int .i64 y2, .int .i64 y3] 87); have C4 := Lib.hid (bseq C3.out (hb4.alloc hb4.size (.cells #[.int .u8 y0, .int .i64 y1, .int .i64 y2, .int .i64 y3] 87))); clear t0 t1 hb4; obtain ⟨t0, t1⟩ := HPB.out _ C4.out)
    | (go_at_call 56; (with_reducible refine (HPS.out _ _ _ (bseq HB0.out C4.out) (HK1.out.below D4.out)).mono ?_); rintro r w5 ⟨v5, rfl, HR⟩; obtain ⟨g5, c5, hv⟩ := HR.out.form; subst hv; have C5 := Lib.hid (bseq C4.out HR.out.low); have X5 := Lib.hid (X4.out.below HR.out.low); have Y5 := Lib.hid (Y4.out.below HR.out.low)))
  clear t0 t1 X4 Y4 X3 HPB HPS HMD HMY HM1 HK1 HFIs HFIu
  go_loopw [18] (fun s18 wx => ∃ i : Nat, 1 ≤ i ∧ (i ≤ L.length ∨ i = 1) ∧ s18 = .int .i64 i ∧ Hid (∀ j : Nat, j < i → j < L.length → L.getD j plc0 = L.getD 0 plc0) ∧ Hid (Below w5.heap.size w5 wx)) (fun s18 _ => L.length + 1 - (intOf s18).toNat)
  case atStart => exact ⟨1, Nat.le_refl _, .inr rfl, rfl, fun j hj _ => by rw [show j = 0 by omega], Below.refl _ _⟩
  case round =>
    obtain ⟨i, hi1, hiL, rfl, HNO, HWX⟩ := hrel
    rename World => wx
    by_cases hlt : i < L.length
    · have hz : (i : Int) < (L.length : Int) := by omega
      have hi0 : (0 : Int) ≤ (i : Int) := by omega
      have hz0 : (0 : Int) < (L.length : Int) := by omega
      have hw1 : wrap64 ((i : Int) + 1) = (i : Int) + 1 := by have := HLN.out; unfold wrap64; omega
      obtain ⟨b, rfl, q0, q1, q2, q3⟩ := (HR.out.below HWX.out).cells hlt
      obtain ⟨b', e, r0, r1, r2, r3⟩ := (HR.out.below HWX.out).cells (i := 0) (by omega)
      cases e
      simp only [Nat.zero_mul, Nat.zero_add] at r0 r1 r2 r3
      rcases hy : L.getD i plc0 with ⟨ik, ia, ib, ic⟩
      rw [hy] at q0 q1 q2 q3
      rcases hx : L.getD 0 plc0 with ⟨jk, ja, jb, jc⟩
      rw [hx] at r0 r1 r2 r3
      dsimp only at q0 q1 q2 q3 r0 r1 r2 r3
      have HY := Lib.hid hy
      have HX := Lib.hid hx
      clear hy hx
      have hE1 : ∀ W, (binOp .neq 91 (.agg #[.int .u8 ik, .int .i64 ia, .int .i64 ib, .int .i64 ic]) (.agg #[.int .u8 jk, .int .i64 ja, .int .i64 jb, .int .i64 jc])).run Tryz.prog W = .ok (.bool !(plcB ⟨ik, ia, ib, ic⟩ ⟨jk, ja, jb, jc⟩)) W := fun W => neqRef ⟨ik, ia, ib, ic⟩ ⟨jk, ja, jb, jc⟩ W
      cases hb : plcB ⟨ik, ia, ib, ic⟩ ⟨jk, ja, jb, jc⟩
      · simp only [hb, Bool.not_false] at hE1
        clear hEQ
        go_upto_region 14 with fail
        go_quiet (fail)
        have HW2 := Lib.hid (below_q15 HWX.out nq)
        go_wp2
        go_ret
        exact ⟨rfl, bseq HB0.out (bseq C5.out HW2.out)⟩
      · simp only [hb, Bool.not_true] at hE1
        clear hEQ
        go_upto_region 14 with fail
        go_quiet (fail)
        have HW2 := Lib.hid (below_q15 HWX.out nq)
        go_wp2
        go_roundw
        case rel =>
          refine ⟨i + 1, by omega, .inl (by omega), by (try rw [hw1]); rfl, ?_, HW2.out⟩
          intro j hj hjL
          by_cases e : j = i
          · subst e
            rw [HY.out]
            exact (plcB_iff _ _).1 hb
          · exact (HNO.out j (by omega) hjL).trans HX.out
        case measure => (try rw [hw1]); simp only [intOf]; omega
    · have hz : ¬(i : Int) < (L.length : Int) := by omega
      have hsb : sb = true := HSB.out (fun j hj => HNO.out j (by omega) hj)
      subst hsb
      obtain ⟨k0, k1, k2, k3⟩ := (X5.out.below HWX.out).c4
      obtain ⟨m0, m1, m2, m3⟩ := (Y5.out.below HWX.out).c4
      go_wp2
      go_ret
      exact ⟨rfl, bseq HB0.out (bseq C5.out HWX.out)⟩

end Go.Proofs.YtdoaniccefdkaaaGreatDoor
