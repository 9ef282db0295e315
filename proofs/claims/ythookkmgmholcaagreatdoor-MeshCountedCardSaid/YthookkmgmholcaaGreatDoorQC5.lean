/- trivetlaw15.MeshCounted: the walk. -/
import Derived.Test.YthookkmgmholcaaGreatDoorQC4
import Derived.OwnWalk
namespace Go.Proofs.YthookkmgmholcaaGreatDoor
open Go.RowKit Go.Maps Go.WideMaps

theorem wrapSS {k : Nat} (h : k ≤ 4000000000000) : wrap64 ((k : Int) + 1 + 1) = ((k + 1 + 1 : Nat) : Int) := by unfold wrap64; omega

set_option maxRecDepth 100000 in
set_option maxHeartbeats 1000000 in
theorem counted_big (l : List Pt) (ad : Option Addr) (cap : Nat) (T : List Tri3) (at_ : Option Addr) (capt : Nat) (hb : 100 < l.length ∨ 200 < T.length) (w : World) :
    Calls Tryz.prog 7 #[.slice ad l.length cap, .slice at_ T.length capt] w fun r w' => r = .returned (.bool true) ∧ Below w.heap.size w w' := by
  have HW := Lib.hid works_walk
  have wa := Below.refl w.heap.size w
  by_cases h1 : 100 < l.length
  · have h1z : (100 : Int) < l.length := by omega
    clear hb
    go_enter Tryz.func7, Tryz.ntmps7
    go_wp2_with (go_at_call 36; with_reducible refine (HW.out _).mono ?_; rintro r w1 ⟨rfl, hb1⟩; have wa := wa.trans (hb1.mono wa.size))
    go_ret
    exact ⟨rfl, wa⟩
  · have h2 : 200 < T.length := hb.resolve_left h1
    have h1z : ¬(100 : Int) < l.length := by omega
    have h2z : (200 : Int) < T.length := by omega
    clear hb
    go_enter Tryz.func7, Tryz.ntmps7
    go_wp2_with (go_at_call 36; with_reducible refine (HW.out _).mono ?_; rintro r w1 ⟨rfl, hb1⟩; have wa := wa.trans (hb1.mono wa.size))
    go_ret
    exact ⟨rfl, wa⟩

set_option maxRecDepth 100000 in
set_option maxHeartbeats 1000000 in
theorem counted_nil (l : List Pt) (ad : Option Addr) (cap : Nat) (T : List Tri3) (at_ : Option Addr) (capt : Nat) (h1 : l.length ≤ 100) (h2 : T.length ≤ 200) (h64 : ∀ p, p ∈ l → pt64 p) (hk : allCode l ≠ 0) (w : World) (hc : PCells w ad l) :
    Calls Tryz.prog 7 #[.slice ad l.length cap, .slice at_ T.length capt] w fun r w' => r = .returned (.bool true) ∧ Below w.heap.size w w' := by
  have HW := Lib.hid works_walk
  have wa := Below.refl w.heap.size w
  have HN := Lib.hid (fun w1 (hb : Below w.heap.size w w1) => made_nil l ad cap (.slice at_ T.length capt) h64 hk w1 (hc.below hb))
  have h1z : ¬(100 : Int) < l.length := by omega
  have h2z : ¬(200 : Int) < T.length := by omega
  clear h64 hk hc
  go_enter Tryz.func7, Tryz.ntmps7
  go_wp2_with (first
    | (go_at_call 36; with_reducible refine (HW.out _).mono ?_; rintro r w1 ⟨rfl, hb1⟩; have wa := wa.trans (hb1.mono wa.size))
    | (go_at_call 37; with_reducible refine (HN.out _ wa).mono ?_; rintro r w2 ⟨rfl, hb2⟩; have wa := wa.trans (hb2.mono wa.size)))
  go_ret
  exact ⟨rfl, wa⟩

/-- two triangles that follow one another, as the walk reads them -/
def Six (w : World) (g k k' : Nat) (t u : Tri3) : Prop := w.cell? ⟨g, k * 3, none⟩ = some (.int .i64 t.1) ∧ w.cell? ⟨g, k * 3 + 1, none⟩ = some (.int .i64 t.2.1) ∧ w.cell? ⟨g, k * 3 + 2, none⟩ = some (.int .i64 t.2.2) ∧
  w.cell? ⟨g, k' * 3, none⟩ = some (.int .i64 u.1) ∧ w.cell? ⟨g, k' * 3 + 1, none⟩ = some (.int .i64 u.2.1) ∧ w.cell? ⟨g, k' * 3 + 2, none⟩ = some (.int .i64 u.2.2)
theorem Six.below {w w' : World} {g k k' : Nat} {t u : Tri3} (h : Six w g k k' t u) (hb : Below w.heap.size w w') : Six w' g k k' t u := by
  have f : ∀ (i : Nat) (v : Value), w.cell? ⟨g, i, none⟩ = some v → w'.cell? ⟨g, i, none⟩ = some v := fun i v hv => (hb.cell (p := ⟨g, i, none⟩) (World.block_lt_of_cell? _ _ hv)).trans hv
  exact ⟨f _ _ h.1, f _ _ h.2.1, f _ _ h.2.2.1, f _ _ h.2.2.2.1, f _ _ h.2.2.2.2.1, f _ _ h.2.2.2.2.2⟩
theorem sorted_next {ap : Int → Int → Option Int} {n : Nat} {TT : List Tri3} (h : TT = trisL ap n) {k : Nat} (hk : k + 1 < TT.length) : ltT (TT.getD k (0, 0, 0)) (TT.getD (k + 1) (0, 0, 0)) := by
  subst h
  have := List.pairwise_iff_getElem.1 (trisL_sorted ap n) k (k + 1) (by omega) hk (by omega)
  rw [List.getD_eq_getElem?_getD, List.getD_eq_getElem?_getD, List.getElem?_eq_getElem hk, List.getElem?_eq_getElem (show k < (trisL ap n).length by omega)]
  exact this

theorem wrap_small {n : Int} (h0 : 0 ≤ n) (h1 : n < 1000000000000) : IntKind.i64.wrap n = n := by
  simp [IntKind.wrap, IntKind.bits, IntKind.signed]; omega

theorem below_drawn {B : Nat} {a w : World} {n : Nat} (h : Below B a w) : Below B a (w.drewN n) := ⟨h.os, h.tape, h.output, h.size, h.block⟩

theorem take_snocE (l : List (Int × Int)) (n : Nat) (h : n < l.length) : l.take (n + 1) = l.take n ++ [l.getD n (0, 0)] := by
  rw [List.take_add_one, List.getElem?_eq_getElem h, List.getD_eq_getElem?_getD, List.getElem?_eq_getElem h]; rfl
theorem getD_memE {l : List (Int × Int)} {k : Nat} (h : k < l.length) : l.getD k (0, 0) ∈ l := by
  rw [List.getD_eq_getElem?_getD, List.getElem?_eq_getElem h]; exact List.getElem_mem h

set_option maxRecDepth 100000 in
set_option maxHeartbeats 8000000 in
theorem counted_main (l : List Pt) (ad : Option Addr) (cap : Nat) (T : List Tri3) (at_ : Option Addr) (capt : Nat) (h1 : l.length ≤ 100) (h2 : T.length ≤ 200) (h64 : ∀ p, p ∈ l → pt64 p) (hk : allCode l = 0) (w : World) (hc : PCells w ad l) (hct : TCells w at_ T) :
    Calls Tryz.prog 7 #[.slice ad l.length cap, .slice at_ T.length capt] w fun r w' => r = .returned (.bool true) ∧ Below w.heap.size w w' := by
  have HW := Lib.hid works_walk
  have HMD := Lib.hid (fun w1 (hb : Below w.heap.size w w1) => made_ok l ad cap T at_ capt h64 hk (by omega) (by omega) w1 (hc.below hb) (hct.below hb))
  have h1z : ¬(100 : Int) < l.length := by omega
  have h2z : ¬(200 : Int) < T.length := by omega
  obtain ⟨i0, hi, hz0, hz1, hz2⟩ := info_parts infoInt
  have HS := Lib.hid (madeM_sound l T)
  have HMP := Lib.hid (foldM_P T (emptyM l))
  have HL1 := Lib.hid h1
  have HL2 := Lib.hid h2
  clear h64 hk hc hct h1 h2
  generalize hM : foldM (emptyM l) T = M at *
  have HP : Hid (M.P = l) := by unfold Hid; rw [HMP.out]; rfl
  have HPL : Hid (M.P.length ≤ 1048576) := by unfold Hid; rw [HP.out]; have := HL1.out; omega
  have HT := Lib.hid (fun wa wb mb n F (h : MB wa wb mb n M F) => tris_mb h HS.out HPL.out)
  have HBO := Lib.hid (fun wa wb mb n F (h : MB wa wb mb n M F) => border_mb h HS.out HPL.out)
  have HE := Lib.hid (fun wa wb mb n F (h : MB wa wb mb n M F) => edges_mb h HS.out HPL.out)
  have HC := Lib.hid (fun wa wb mb n F (h : MB wa wb mb n M F) => count_mb h)
  rw [sound_count HS.out] at HC
  have hN : M.P.length ≤ 100 := by rw [HP.out]; exact HL1.out
  have hNN : M.P.length * M.P.length ≤ 100 * 100 := Nat.mul_le_mul hN hN
  have ht := trisL_few M.ap M.P.length
  have he := edgeL_short M.ap M.P.length
  have hbo := bordL_short M.ap M.P.length
  have e3 := three_tris HS.out.win HS.out.rot
  have e2 := two_edges (ap := M.ap) M.P.length HS.out.rot
  obtain ⟨TT, hTT⟩ : ∃ TT, TT = trisL M.ap M.P.length := ⟨_, rfl⟩
  obtain ⟨EE, hEE⟩ : ∃ EE, EE = edgeL M.ap M.P.length := ⟨_, rfl⟩
  obtain ⟨BB, hBB⟩ : ∃ BB, BB = bordL M.ap M.P.length := ⟨_, rfl⟩
  rw [← hTT] at HT HC ht e3
  rw [← hEE] at HE he e2
  rw [← hBB] at HBO hbo e2
  have HTT := Lib.hid hTT
  have HBB := Lib.hid hBB
  have HSM : Hid (TT.length ≤ 10000 ∧ BB.length ≤ 10000) := ⟨by omega, by omega⟩
  have hw1 : wrap64 (3 * (TT.length : Int)) = 3 * (TT.length : Int) := by unfold wrap64; omega
  have hw2 : wrap64 (2 * (EE.length : Int)) = 2 * (EE.length : Int) := by unfold wrap64; omega
  have hw3 : wrap64 (2 * (EE.length : Int) - (BB.length : Int)) = 3 * (TT.length : Int) := by unfold wrap64; omega
  clear hM HMP hN hNN ht he hbo e3 e2 hTT hEE hBB
  go_enter Tryz.func7, Tryz.ntmps7
  go_wp2_with (first
    | (go_at_call 36; with_reducible refine (HW.out _).mono ?_; rintro r w1 ⟨rfl, wb⟩)
    | (go_at_call 37; with_reducible refine (HMD.out _ wb).mono ?_; rintro r w2 ⟨mb, F, rfl, hm2⟩)
    | (go_at_call 23; with_reducible refine (HT.out _ _ _ _ _ hm2).mono ?_; rintro r w3 ⟨ad3, cap3, rfl, hk3, hg3, hm3, hb3⟩)
    | (go_at_call 38; with_reducible refine (HBO.out _ _ _ _ _ hm3).mono ?_; rintro r w4 ⟨ad4, cap4, rfl, hk4, hg4, hm4, hb4⟩)
    | (go_at_call 39; with_reducible refine (HC.out _ _ _ _ _ hm4).mono ?_; rintro r w5 ⟨rfl, rfl⟩)
    | (go_at_call 34; with_reducible refine (HE.out _ _ _ _ _ hm4).mono ?_; rintro r w6 ⟨ad6, cap6, rfl, _, _, hm6, hb6⟩)
    | (at_make; refine wpList_make_full _ rfl _ _ 65 rfl 0 3 i0 (.int .i64 0) 1 Tryz.underlying65 hi hz0 hz1 .i64 .i64 _ _ l.length rfl rfl rfl rfl ?b2 ?b3 (Nat.zero_le _) ?_))
  case b2 => rw [hz2]; have := HL1.out; omega
  case b3 => have := HL1.out; unfold maxLen; omega
  intro w7 hown hgrow
  have HB7 : Hid (Below w6.heap.size w6 w7) := ⟨hgrow.os, hgrow.tape, hgrow.output, hgrow.size, fun i hi => hgrow.block i hi (by simp)⟩
  have HZ7 : Hid (w6.heap.size < w7.heap.size) := (hown.lt _ rfl).2
  have HC7 : Hid (∀ v : Nat, v < l.length → w7.cell? ⟨w6.heap.size, v, none⟩ = some (.int .i64 (bal (BB.take 0) v)) ∧ w7.frozen? ⟨w6.heap.size, v, none⟩ = false) := by
    intro v hv
    refine ⟨?_, owns_frozen hown v⟩
    rw [hown.cellAt v (by omega)]
    show (madeCells #[.int .i64 0] l.length).toList[v]? = _
    rw [toList_madeCells_one, List.getElem?_replicate, if_pos hv]
    rfl
  have HWB := Lib.hid wb
  have HM6 := Lib.hid hm6
  have HK3 := Lib.hid ((hk3.below hb4).below hb6)
  have HK4 := Lib.hid (hk4.below hb6)
  have HB6 : Hid (w5.heap.size ≤ w6.heap.size ∧ w3.heap.size ≤ w5.heap.size) := ⟨hb6.size, hb4.size⟩
  have HG4 := Lib.hid hg4
  clear hown hgrow wb hm2 hm3 hm4 hm6 hk3 hk4 hb3 hb4 hb6 hg3 hg4 hw1 hw2 hw3
  go_wp2
  go_loopw [9] (fun s9 wr => ∃ k : Nat, k ≤ BB.length ∧ s9 = .int .i64 k ∧ Hid (Below w6.heap.size w6 wr) ∧ Hid (w6.heap.size < wr.heap.size) ∧ Hid (∀ v : Nat, v < l.length → wr.cell? ⟨w6.heap.size, v, none⟩ = some (.int .i64 (bal (BB.take k) v)) ∧ wr.frozen? ⟨w6.heap.size, v, none⟩ = false)) (fun i _ => BB.length - (intOf i).toNat)
  case atStart => exact ⟨0, Nat.zero_le _, rfl, HB7.out, HZ7.out, HC7.out⟩
  case round =>
    obtain ⟨k, hk, rfl, HBR, HZR, HCR⟩ := hrel
    by_cases hlt : k < BB.length
    · obtain ⟨g, hg, hgl, q0, q1⟩ := (HK4.out.below HBR.out).pair hlt
      obtain ⟨x, hx⟩ : ∃ x, BB.getD k (0, 0) = x := ⟨_, rfl⟩
      have HTK := Lib.hid (take_snocE BB k hlt)
      rw [hx] at q0 q1 HTK
      have hmem : x ∈ BB := hx ▸ getD_memE hlt
      rw [HBB.out, mem_bordL HS.out.win] at hmem
      have hin : inB M.ap x = true := by unfold bordB at hmem; simp only [Bool.and_eq_true] at hmem; exact hmem.1
      obtain ⟨c, hc⟩ := in_some hin
      have hr := HS.out.within3 hc
      have hne := (HS.out.rot.ne _ _ _ hc).1
      rw [HP.out] at hr
      obtain ⟨xi, yi⟩ := x
      dsimp only at q0 q1 hr hne hc
      obtain ⟨xn, rfl⟩ : ∃ n : Nat, xi = n := ⟨xi.toNat, by omega⟩
      obtain ⟨yn, rfl⟩ : ∃ n : Nat, yi = n := ⟨yi.toNat, by omega⟩
      have hgb : g ≠ w6.heap.size := by have := (HG4.out _ hg).2; have := HB6.out.1; dsimp only at *; omega
      have hxn : xn < l.length := by omega
      have hyn : yn < l.length := by omega
      have hyx : yn ≠ xn := by omega
      obtain ⟨cx, fx⟩ := HCR.out xn hxn
      obtain ⟨cy, fy⟩ := HCR.out yn hyn
      have bx := bal_bound (BB.take k) xn
      have by' := bal_bound (BB.take k) yn
      rw [List.length_take] at bx by'
      have hsm := HSM.out
      have hwx : wrap64 (bal (BB.take k) xn - 1) = bal (BB.take k) xn - 1 := by unfold wrap64; omega
      have hwy : wrap64 (bal (BB.take k) yn + 1) = bal (BB.take k) yn + 1 := by unfold wrap64; omega
      have HNX : Hid (∀ v : Nat, v < l.length → ((wr.setCell ⟨w6.heap.size, xn, none⟩ (.int .i64 (bal (BB.take k) xn - 1))).setCell ⟨w6.heap.size, yn, none⟩ (.int .i64 (bal (BB.take k) yn + 1))).cell? ⟨w6.heap.size, v, none⟩ = some (.int .i64 (bal (BB.take (k + 1)) v)) ∧
          ((wr.setCell ⟨w6.heap.size, xn, none⟩ (.int .i64 (bal (BB.take k) xn - 1))).setCell ⟨w6.heap.size, yn, none⟩ (.int .i64 (bal (BB.take k) yn + 1))).frozen? ⟨w6.heap.size, v, none⟩ = false) := by
        intro v hv
        refine ⟨?_, by rw [World.frozen?_setCell, World.frozen?_setCell]; exact (HCR.out v hv).2⟩
        rw [HTK.out, bal_snoc]
        dsimp only
        have m2 : (wr.setCell ⟨w6.heap.size, xn, none⟩ (.int .i64 (bal (BB.take k) xn - 1))).cell? ⟨w6.heap.size, yn, none⟩ = some (.int .i64 (bal (BB.take k) yn)) := by
          rw [World.cell?_setCell_other _ _ _ _ (by intro e; cases e; exact hyx rfl)]; exact cy
        by_cases e1 : v = yn
        · subst e1
          rw [World.cell?_setCell_same _ _ _ m2, if_pos rfl, if_neg (by omega)]
          simp
        · rw [World.cell?_setCell_other _ _ _ _ (by intro e; cases e; exact e1 rfl)]
          by_cases e2 : v = xn
          · subst e2
            rw [World.cell?_setCell_same _ _ _ cx, if_neg (by omega), if_pos rfl]
            simp
          · rw [World.cell?_setCell_other _ _ _ _ (by intro e; cases e; exact e2 rfl), if_neg (by omega), if_neg (by omega)]
            simpa using (HCR.out v hv).1
      have HNB : Hid (Below w6.heap.size w6 ((wr.setCell ⟨w6.heap.size, xn, none⟩ (.int .i64 (bal (BB.take k) xn - 1))).setCell ⟨w6.heap.size, yn, none⟩ (.int .i64 (bal (BB.take k) yn + 1)))) := (HBR.out.setCell (Nat.le_refl _) _).setCell (Nat.le_refl _) _
      have m0 : (wr.setCell ⟨w6.heap.size, xn, none⟩ (.int .i64 (bal (BB.take k) xn - 1))).cell? ⟨g, k * 2, none⟩ = some (.int .i64 xn) := by
        rw [World.cell?_setCell_other _ _ _ _ (by intro e; cases e; exact hgb rfl)]; exact q0
      have m1 : (wr.setCell ⟨w6.heap.size, xn, none⟩ (.int .i64 (bal (BB.take k) xn - 1))).cell? ⟨g, k * 2 + 1, none⟩ = some (.int .i64 yn) := by
        rw [World.cell?_setCell_other _ _ _ _ (by intro e; cases e; exact hgb rfl)]; exact q1
      have m2 : (wr.setCell ⟨w6.heap.size, xn, none⟩ (.int .i64 (bal (BB.take k) xn - 1))).cell? ⟨w6.heap.size, yn, none⟩ = some (.int .i64 (bal (BB.take k) yn)) := by
        rw [World.cell?_setCell_other _ _ _ _ (by intro e; cases e; exact hyx rfl)]; exact cy
      clear bx by' hmem hin hc hr hne hx
      subst hg
      go_wp2
      exact ⟨⟨k + 1, by omega, rfl, HNB.out, by rw [World.size_setCell, World.size_setCell]; exact HZR.out, HNX.out⟩, by simp [intOf]; omega⟩
    · have e : k = BB.length := by omega
      subst e
      have HZ : Hid (∀ v : Nat, v < l.length → wr.cell? ⟨w6.heap.size, v, none⟩ = some (.int .i64 0)) := by
        intro v hv
        have := (HCR.out v hv).1
        rw [List.take_length, HBB.out, bal_done HS.out] at this
        exact this
      have HB0 := Lib.hid HBR.out
      clear hlt hk HCR HZR HBR HC7 HZ7 HB7
      go_wp2
      go_loopw [10] (fun s10 wq => ∃ k : Nat, k ≤ l.length ∧ s10 = .int .i64 k ∧ wq = wr) (fun i _ => l.length - (intOf i).toNat)
      case atStart => exact ⟨0, Nat.zero_le _, rfl, rfl⟩
      case round =>
        obtain ⟨k, hk, rfl, rfl⟩ := hrel
        by_cases hlt : k < l.length
        · have hz := HZ.out k hlt
          have hl1 := HL1.out
          go_wp2
          go_roundw
          case rel => exact ⟨k + 1, by omega, (by first | rfl | rw [wrapS (by omega)]), (by first | rfl | trivial)⟩
          case measure => first | (simp [intOf]; omega) | (rw [wrapS (by omega)]; simp [intOf]; omega)
        · have e : k = l.length := by omega
          subst e
          clear hlt hk
          go_wp2
          go_loopw [11] (fun s11 wq => ∃ k : Nat, k ≤ TT.length ∧ s11 = .int .i64 k ∧ Hid (Below w6.heap.size w6 wq)) (fun i _ => TT.length - (intOf i).toNat)
          case atStart => exact ⟨0, Nat.zero_le _, rfl, HB0.out⟩
          case round =>
            obtain ⟨k, hk, rfl, HBQ⟩ := hrel
            by_cases hlt : k < TT.length
            · obtain ⟨t, ht⟩ : ∃ t, TT.getD k (0, 0, 0) = t := ⟨_, rfl⟩
              have hmem : t ∈ TT := ht ▸ getD_mem3 hlt
              rw [HTT.out, mem_trisL HS.out.win] at hmem
              obtain ⟨x, y, z⟩ := t
              dsimp only at hmem
              have HA0 := Lib.hid hmem.1
              have HA1 := Lib.hid (HS.out.rot.rot _ _ _ hmem.1)
              have HA2 := Lib.hid (HS.out.rot.rot _ _ _ HA1.out)
              have HI := Lib.hid (HS.out.i64 HPL.out hmem.1)
              have hxy := hmem.2.1
              have hxz := hmem.2.2
              have HHT := Lib.hid ht
              have wr1 : IntKind.i64.wrap 1 = 1 := by decide
              have wr2 : IntKind.i64.wrap 2 = 2 := by decide
              have wr3 : IntKind.i64.wrap 3 = 3 := by decide
              have wr4 : IntKind.i64.wrap 4 = 4 := by decide
              have tm1 : (1 : Int).tmod 3 = 1 := rfl
              have tm2 : (2 : Int).tmod 3 = 2 := rfl
              have tm3 : (3 : Int).tmod 3 = 0 := rfl
              have tm4 : (4 : Int).tmod 3 = 1 := rfl
              have tl1 := HSM.out.1
              clear hmem ht
              go_wp2
              go_loopw [12] (fun s12 wp => ∃ j : Nat, j ≤ 3 ∧ s12 = .int .i64 j ∧ Hid (Below w6.heap.size w6 wp)) (fun i _ => 3 - (intOf i).toNat)
              case atStart => exact ⟨0, by omega, rfl, HBQ.out⟩
              case round =>
                obtain ⟨j, hj, rfl, HBP⟩ := hrel
                obtain ⟨g, hg, _, q0, q1, q2⟩ := (HK3.out.below HBP.out).tri hlt
                rw [HHT.out] at q0 q1 q2
                dsimp only at q0 q1 q2
                have HMQ := Lib.hid (HM6.out.below HBP.out)
                by_cases hj3 : j < 3
                · subst hg
                  have hjj : j = 0 ∨ j = 1 ∨ j = 2 := by omega
                  rcases hjj with rfl | rfl | rfl
                  · have HAP := Lib.hid (apex_mb (HMQ.out.drew) HI.out.1 HI.out.2.1)
                    rw [HA0.out] at HAP
                    simp only [Option.getD_some, Option.isSome_some] at HAP
                    go_wp2
                    rename (∀ (a : Act) (w : World), Code.wp _ _ _ a w → _) => hcA
                    have HCA := Lib.hid (fun (_ : Unit) => hcA)
                    clear hcA
                    rename (∀ (a : Act) (w : World), Code.wp _ _ _ a w → _) => hcB
                    have HCB := Lib.hid (fun (_ : Unit) => hcB)
                    clear hcB
                    repeat (rename (∀ (a : Act) (w : World), Code.wp _ _ _ a w → _) => ha; clear ha)
                    go_region_held3 (fun w' => w' = wr.drew) (first | rfl | assumption) (first | (go_at_call 24; with_reducible refine HAP.out.mono ?_; rintro r w8 ⟨rfl, rfl⟩))
                    have hcA := HCA.out ()
                    have hcB := HCB.out ()
                    go_wp2
                    go_roundw
                    case rel => exact ⟨1, by omega, rfl, HBP.out.drew⟩
                    case measure => simp [intOf]
                  · have HAP := Lib.hid (apex_mb (HMQ.out.drew) HI.out.2.1 HI.out.2.2)
                    rw [HA1.out] at HAP
                    simp only [Option.getD_some, Option.isSome_some] at HAP
                    go_wp2
                    rename (∀ (a : Act) (w : World), Code.wp _ _ _ a w → _) => hcA
                    have HCA := Lib.hid (fun (_ : Unit) => hcA)
                    clear hcA
                    rename (∀ (a : Act) (w : World), Code.wp _ _ _ a w → _) => hcB
                    have HCB := Lib.hid (fun (_ : Unit) => hcB)
                    clear hcB
                    repeat (rename (∀ (a : Act) (w : World), Code.wp _ _ _ a w → _) => ha; clear ha)
                    go_region_held3 (fun w' => w' = wr.drew) (first | rfl | assumption) (first | (go_at_call 24; with_reducible refine HAP.out.mono ?_; rintro r w8 ⟨rfl, rfl⟩))
                    have hcA := HCA.out ()
                    have hcB := HCB.out ()
                    go_wp2
                    go_roundw
                    case rel => exact ⟨2, by omega, rfl, HBP.out.drew⟩
                    case measure => simp [intOf]
                  · have HAP := Lib.hid (apex_mb (HMQ.out.drew) HI.out.2.2 HI.out.1)
                    rw [HA2.out] at HAP
                    simp only [Option.getD_some, Option.isSome_some] at HAP
                    go_wp2
                    rename (∀ (a : Act) (w : World), Code.wp _ _ _ a w → _) => hcA
                    have HCA := Lib.hid (fun (_ : Unit) => hcA)
                    clear hcA
                    rename (∀ (a : Act) (w : World), Code.wp _ _ _ a w → _) => hcB
                    have HCB := Lib.hid (fun (_ : Unit) => hcB)
                    clear hcB
                    repeat (rename (∀ (a : Act) (w : World), Code.wp _ _ _ a w → _) => ha; clear ha)
                    go_region_held3 (fun w' => w' = wr.drew) (first | rfl | assumption) (first | (go_at_call 24; with_reducible refine HAP.out.mono ?_; rintro r w8 ⟨rfl, rfl⟩))
                    have hcA := HCA.out ()
                    have hcB := HCB.out ()
                    go_wp2
                    go_roundw
                    case rel => exact ⟨3, by omega, rfl, HBP.out.drew⟩
                    case measure => simp [intOf]
                · have e : j = 3 := by omega
                  subst e
                  clear hj3 hj
                  subst hg
                  have hge1 : decide (x ≥ y) = false := decide_eq_false (by omega)
                  have hge2 : decide (x ≥ z) = false := decide_eq_false (by omega)
                  have hge3 : decide (y ≤ x) = false := decide_eq_false (by omega)
                  have hge4 : decide (z ≤ x) = false := decide_eq_false (by omega)
                  clear HW HMD HT HBO HE HC HA0 HA1 HA2 HI HMQ HS HP HPL HZ HB0 HM6 HK4 HG4 HWB HBQ hi hz0 hz1 hz2 wr1 wr2 wr3 wr4 tm1 tm2 tm3 tm4 HL2
                  rcases Nat.eq_zero_or_pos k with rfl | hkp
                  · simp only [Nat.zero_mul, Nat.zero_add] at q0 q1 q2
                    have hgt1 : decide ((0 : Int) > 0) = false := rfl
                    have hgt2 : decide (((0 : Nat) : Int) > 0) = false := rfl
                    have hgt3 : decide (0 < ((0 : Nat) : Int)) = false := rfl
                    go_wp2
                    rename (∀ (a : Act) (w : World), Code.wp _ _ _ a w → _) => hcA
                    have HCA := Lib.hid (fun (_ : Unit) => hcA)
                    clear hcA
                    rename (∀ (a : Act) (w : World), Code.wp _ _ _ a w → _) => hcB
                    clear hcB
                    rename (∀ (a : Act) (w : World), Code.wp _ _ _ a w → _) => hcX
                    have HCX := Lib.hid (fun (_ : Unit) => hcX)
                    clear hcX
                    repeat (rename (∀ (a : Act) (w : World), Code.wp _ _ _ a w → _) => ha; clear ha)
                    go_quiet (fail)
                    have hcX := HCX.out ()
                    have hcA := HCA.out ()
                    go_wp2
                    go_roundw
                    case rel => exact ⟨1, by omega, rfl, below_drawn HBP.out⟩
                    case measure => simp [intOf]; omega
                  · obtain ⟨k', rfl⟩ : ∃ k', k = k' + 1 := ⟨k - 1, by omega⟩
                    obtain ⟨g', hg', hgl, p0, p1, p2⟩ := (HK3.out.below HBP.out).tri (k := k') (by omega)
                    have hLT := sorted_next HTT.out hlt
                    rw [HHT.out] at hLT
                    generalize TT.getD k' (0, 0, 0) = u at *
                    obtain ⟨x', y', z'⟩ := u
                    dsimp only at p0 p1 p2
                    cases hg'
                    have HLS := Lib.hid (lessT_walk (x', y', z') (x, y, z) hLT)
                    unfold vT at HLS
                    dsimp only at HLS
                    have n1 : Six wr.drew g (k' + 1) k' (x, y, z) (x', y', z') := ⟨q0, q1, q2, p0, p1, p2⟩
                    have hgt1 : decide (((k' + 1 : Nat) : Int) > 0) = true := decide_eq_true (by omega)
                    have hgt2 : decide ((k' : Int) + 1 > 0) = true := decide_eq_true (by omega)
                    have hgt3 : decide (0 < (k' : Int) + 1) = true := decide_eq_true (by omega)
                    have hgt4 : decide (0 < ((k' + 1 : Nat) : Int)) = true := decide_eq_true (by omega)
                    have hb1 : (0 : Int) ≤ (k' : Int) + 1 := by omega
                    have hb2 : (k' : Int) + 1 < (TT.length : Int) := by omega
                    have hb3 : (k' : Int) < (TT.length : Int) := by omega
                    have hb4 : (0 : Int) ≤ (k' : Int) := by omega
                    have htn : ((k' : Int) + 1).toNat = k' + 1 := by omega
                    have hwa : IntKind.i64.wrap (k' : Int) = k' := wrap_small (by omega) (by omega)
                    have hwb : IntKind.i64.wrap ((k' : Int) + 1 - 1) = k' := by rw [Int.add_sub_cancel]; exact hwa
                    have hwm : wrap64 (k' : Int) = k' := by unfold wrap64; omega
                    clear hLT hkp
                    go_wp2
                    clear HTT HHT HK3 HBB HSM
                    rename (∀ (a : Act) (w : World), Code.wp _ _ _ a w → _) => hcA
                    have HCA := Lib.hid (fun (_ : Unit) => hcA)
                    clear hcA
                    rename (∀ (a : Act) (w : World), Code.wp _ _ _ a w → _) => hcB
                    clear hcB
                    rename (∀ (a : Act) (w : World), Code.wp _ _ _ a w → _) => hcX
                    have HCX := Lib.hid (fun (_ : Unit) => hcX)
                    clear hcX
                    repeat (rename (∀ (a : Act) (w : World), Code.wp _ _ _ a w → _) => ha; clear ha)
                    go_region_held3 (fun w' => w'.cell? ⟨g, (k' + 1) * 3, none⟩ = some (.int .i64 x) ∧ w'.cell? ⟨g, (k' + 1) * 3 + 1, none⟩ = some (.int .i64 y) ∧ w'.cell? ⟨g, (k' + 1) * 3 + 2, none⟩ = some (.int .i64 z)
                        ∧ w'.cell? ⟨g, k' * 3, none⟩ = some (.int .i64 x') ∧ w'.cell? ⟨g, k' * 3 + 1, none⟩ = some (.int .i64 y') ∧ w'.cell? ⟨g, k' * 3 + 2, none⟩ = some (.int .i64 z')) (first | assumption | exact n1 | exact n2)
                      (first | (go_at_call 40; with_reducible refine (HLS.out _).mono ?_; rintro r w8 ⟨rfl, hb8⟩; have n2 := Six.below n1 hb8))
                    have hcX := HCX.out ()
                    have hcA := HCA.out ()
                    have HB8 := Lib.hid (HBP.out.drew.trans (hb8.mono HBP.out.size))
                    clear n1 n2 hb8 q0 q1 q2 p0 p1 p2 hgt1 hgt2 hgt3 hgt4 hb1 hb2 hb3 hb4 htn hwa hwb hwm hge1 hge2 hge3 hge4
                    go_wp2
                    go_roundw
                    case rel => exact ⟨k' + 1 + 1, by omega, (by first | (rw [wrapSS (by omega)]; done) | (rw [show (k' : Int) + 1 + 1 = ((k' + 1 + 1 : Nat) : Int) from (by omega)])), HB8.out⟩
                    case measure => first | (simp only [intOf]; omega) | (rw [wrapSS (by omega)]; simp only [intOf]; omega)
            · have e : k = TT.length := by omega
              subst e
              clear hlt hk
              go_wp2
              go_ret
              exact ⟨rfl, HWB.out.trans ((HM6.out.keep.trans (HBQ.out.mono HM6.out.keep.size)).mono HWB.out.size)⟩

end Go.Proofs.YthookkmgmholcaaGreatDoor
