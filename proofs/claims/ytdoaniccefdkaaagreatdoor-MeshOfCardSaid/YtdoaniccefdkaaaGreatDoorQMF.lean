/- trivetlaw15.stands. -/
import Derived.Test.YtdoaniccefdkaaaGreatDoorQME
set_option linter.all false
namespace Go.Proofs.YtdoaniccefdkaaaGreatDoor
open Go.RowKit Tvf Go.Maps Go.WideMaps

set_option maxRecDepth 100000 in
set_option maxHeartbeats 16000000 in
theorem stands_walk {w : World} {l : List Pt} {mb n : Nat} {M : MeshM} {F : Nat → Prop} {B xb : Nat} {ad : Option Addr} {cap : Nat} {T : List Tri3} {vT : Value} {S : List Seg3} {vS : Value} (h : St w l mb n M F B xb ad cap T vT S vS) {a b : Int} (ha : i64ok a) (hb : i64ok b) :
    Calls Tryz.prog 26 #[.pointer (some ⟨mb, 0, none⟩), .pointer (some ⟨xb, 0, none⟩), .int .i64 a, .int .i64 b] w fun r w' => r = .returned (.bool true) ∧ Below w.heap.size w w' := by
  have hbw : Below w.heap.size w w := Below.refl _ _
  obtain ⟨gt, ct, rfl, _⟩ := h.x.form
  obtain ⟨gs, cs, rfl⟩ : ∃ gs cs, vS = .slice gs S.length cs := by
    rcases h.x.seg.2 with ⟨rfl, h0⟩ | ⟨g, cp, cur, rfl, _⟩
    · exact ⟨none, 0, by rw [h0]⟩
    · exact ⟨_, _, rfl⟩
  have HCX : Hid (∀ W, Below w.heap.size w W → W.cell? ⟨xb, 0, none⟩ = some (.slice ad l.length cap) ∧ W.cell? ⟨xb, 1, none⟩ = some (.slice gt T.length ct) ∧ W.cell? ⟨xb, 2, none⟩ = some (.slice gs S.length cs)) := fun W hb => (h.below hb).x.cells
  have HPX : Hid (∀ W i, Below w.heap.size w W → i < l.length → ∃ g o, ad = some ⟨g, o, none⟩ ∧ W.cell? ⟨g, o + i * 2, none⟩ = some (.float .f64 (l.getD i (0, 0)).1) ∧ W.cell? ⟨g, o + i * 2 + 1, none⟩ = some (.float .f64 (l.getD i (0, 0)).2)) := fun W i hb hi => by
    obtain ⟨g, o, e, _, hc⟩ := (h.below hb).x.pts (by omega)
    exact ⟨g, o, e, (hc i hi).1, (hc i hi).2⟩
  have HPO : Hid (∀ W, Below w.heap.size w W → Calls Tryz.prog 75 #[.pointer (some ⟨mb, 0, none⟩)] W fun r w' => ∃ ad cap, r = .returned (.slice ad l.length cap) ∧ Hid (0 < l.length → ∃ g, ad = some ⟨g, 0, none⟩ ∧ W.heap.size ≤ g ∧ FTail w' g l 0) ∧ Below W.heap.size W w') := fun W hb => by
    have := points_own (h.below hb).m h.PL
    rw [h.P] at this
    exact this
  have HLN : Hid (∀ W, Below w.heap.size w W → Calls Tryz.prog 47 #[.pointer (some ⟨mb, 0, none⟩)] W fun r w' => r = .returned (.int .i64 l.length) ∧ w' = W) := fun W hb => by
    have := len_walk (h.below hb).m
    rw [h.P] at this
    exact this
  have HCN : Hid (∀ W, Below w.heap.size w W → Calls Tryz.prog 61 #[.pointer (some ⟨mb, 0, none⟩)] W fun r w' => r = .returned (.int .i64 T.length) ∧ w' = W) := fun W hb => by
    have := count_walk (h.below hb).m
    have e : M.cnt = (T.length : Int) := by
      rw [sound_cnt15 h.tw.s]
      have h2 := nodup_len _ _ ((trisL_sorted M.ap M.P.length).imp (fun {x y} h e => by subst e; exact ltT_irr _ h)) (fun y hy => (h.tw.tris y).1 hy)
      have h3 := nodup_len _ _ h.tw.nodup (fun y hy => (h.tw.tris y).2 hy)
      rw [List.length_map] at h2 h3
      omega
    rw [e] at this
    exact this
  have HTM : Hid (∀ W, Below w.heap.size w W → Calls Tryz.prog 18 #[.pointer (some ⟨mb, 0, none⟩)] W fun r w' => ∃ ad cap, r = .returned (.slice ad (trisL M.ap M.P.length).length cap) ∧ KCells encT w' ad (trisL M.ap M.P.length) ∧ Below W.heap.size W w') := fun W hb => by
    refine (tris_walk (h.below hb).m h.tw.s.win h.PL).mono ?_
    rintro r w' ⟨v, rfl, ho, hb⟩
    obtain ⟨ad, cap, rfl, hc, hg⟩ := owns_kcells ho
    exact ⟨ad, cap, rfl, hc, hb⟩
  have HTX : Hid (∀ W, Below w.heap.size w W → Calls Tryz.prog 76 #[.slice gt T.length ct] W fun r w' => ∃ ad cap, r = .returned (.slice ad (trisL M.ap M.P.length).length cap) ∧ KCells encT w' ad (trisL M.ap M.P.length) ∧ Below W.heap.size W w') := fun W hb => (h.below hb).sorted rfl
  have HEM : Hid (∀ W, Below w.heap.size w W → Calls Tryz.prog 78 #[.pointer (some ⟨mb, 0, none⟩)] W fun r w' => ∃ ad cap, r = .returned (.slice ad (edgeL M.ap M.P.length).length cap) ∧ KCells encP w' ad (edgeL M.ap M.P.length) ∧ Below W.heap.size W w') := fun W hb => by
    refine (edges_walk (h.below hb).m h.tw.s.win h.tw.s.rot h.PL).mono ?_
    rintro r w' ⟨v, rfl, ho, hb⟩
    obtain ⟨ad, cap, rfl, hc, hg⟩ := owns_kcells ho
    exact ⟨ad, cap, rfl, hc, hb⟩
  have HEX : Hid (∀ W, Below w.heap.size w W → Calls Tryz.prog 79 #[.pointer (some ⟨xb, 0, none⟩)] W fun r w' => ∃ ad cap, r = .returned (.slice ad (edgeL M.ap M.P.length).length cap) ∧ KCells encP w' ad (edgeL M.ap M.P.length) ∧ Below W.heap.size W w') := fun W hb => (h.below hb).edges
  have HBM : Hid (∀ W, Below w.heap.size w W → Calls Tryz.prog 46 #[.pointer (some ⟨mb, 0, none⟩)] W fun r w' => ∃ ad cap, r = .returned (.slice ad (bordL M.ap M.P.length).length cap) ∧ KCells encP w' ad (bordL M.ap M.P.length) ∧ Below W.heap.size W w') := fun W hb => by
    refine (border_walk (h.below hb).m h.tw.s.win h.PL).mono ?_
    rintro r w' ⟨v, rfl, ho, hb⟩
    obtain ⟨ad, cap, rfl, hc, hg⟩ := owns_kcells ho
    exact ⟨ad, cap, rfl, hc, hb⟩
  have HBX : Hid (∀ W, Below w.heap.size w W → Calls Tryz.prog 80 #[.pointer (some ⟨xb, 0, none⟩)] W fun r w' => ∃ ad cap, r = .returned (.slice ad (bordL M.ap M.P.length).length cap) ∧ KCells encP w' ad (bordL M.ap M.P.length) ∧ Below W.heap.size W w') := fun W hb => (h.below hb).border
  have HFM : Hid (∀ W, Below w.heap.size w W → Calls Tryz.prog 82 #[.pointer (some ⟨mb, 0, none⟩)] W fun r w' => ∃ ad cap, r = .returned (.slice ad S.length cap) ∧ KCells encS w' ad S ∧ Below W.heap.size W w') := fun W hb => fixes_mb (h.below hb).m h.fx (by have := h.hs; omega)
  have HFX : Hid (∀ W, Below w.heap.size w W → KCells encS W gs S) := fun W hb => by
    obtain ⟨ad', cap', e, hc, _⟩ := owns_kcells (h.below hb).x.seg
    cases e
    exact hc
  have HSM : Hid (∀ W, Below w.heap.size w W → Calls Tryz.prog 84 #[.pointer (some ⟨mb, 0, none⟩), .int .i64 a] W fun r w' => ∃ ad cap, r = .returned (.slice ad (spokesL M a).length cap) ∧ KCells encI w' ad (spokesL M a) ∧ Below W.heap.size W w') := fun W hb => spokes_k (h.below hb).m h.tw.s h.PL (h.hn) ha
  have HSX : Hid (∀ W, Below w.heap.size w W → Calls Tryz.prog 85 #[.pointer (some ⟨xb, 0, none⟩), .int .i64 a] W fun r w' => ∃ ad cap, r = .returned (.slice ad (spokesL M a).length cap) ∧ KCells encI w' ad (spokesL M a) ∧ Below W.heap.size W w') := fun W hb => (h.below hb).spokes a
  have HAM : Hid (∀ W, Below w.heap.size w W → Calls Tryz.prog 19 #[.pointer (some ⟨mb, 0, none⟩), .int .i64 a, .int .i64 b] W fun r w' => r = .returned (.tuple #[.int .i64 ((apR T a b).getD 0), .bool (apR T a b).isSome]) ∧ w' = W) := fun W hb' => by
    have := apex_walk (h.below hb').m ha hb
    rw [h.tw.ap] at this
    exact this
  have HAX : Hid (∀ W, Below w.heap.size w W → Calls Tryz.prog 74 #[.pointer (some ⟨xb, 0, none⟩), .int .i64 a, .int .i64 b] W fun r w' => r = .returned (.tuple #[.int .i64 ((apR T a b).getD 0), .bool (apR T a b).isSome]) ∧ w' = W) := fun W hb' => apex15 (h.below hb').x (by have := h.ht; omega) a b
  have HDM : Hid (∀ W, Below w.heap.size w W → Calls Tryz.prog 22 #[.pointer (some ⟨mb, 0, none⟩), .int .i64 a, .int .i64 b] W fun r w' => r = .returned (.tuple #[.int .i64 ((markL S (minI a b) (maxI a b)).getD 0), .bool (markL S (minI a b) (maxI a b)).isSome]) ∧ Below W.heap.size W w') := fun W hb' => by
    rw [h.fx.mark]
    exact fixed_walk (h.below hb').m ha hb
  have HDX : Hid (∀ W, Below w.heap.size w W → Calls Tryz.prog 86 #[.pointer (some ⟨xb, 0, none⟩), .int .i64 a, .int .i64 b] W fun r w' => r = .returned (.tuple #[.int .i64 ((markL S (minI a b) (maxI a b)).getD 0), .bool (markL S (minI a b) (maxI a b)).isSome]) ∧ Below W.heap.size W w') := fun W hb' => fixed15 (h.below hb').x (by have := h.hs; omega) a b
  have HPT : Hid (∀ W (i : Nat), i < l.length → Below w.heap.size w W → Calls Tryz.prog 48 #[.pointer (some ⟨mb, 0, none⟩), .int .i64 i] W fun r w' => r = .returned (.tuple #[.agg #[.float .f64 (l.getD i (0, 0)).1, .float .f64 (l.getD i (0, 0)).2], .bool true]) ∧ Below W.heap.size W w') := fun W i hi hb' => by
    have := point_walk (h.below hb').m (i : Int)
    rw [ptAt_yes (by rw [h.P]; exact hi), hasM_nat (by rw [h.P]; exact hi), h.P] at this
    exact this
  have HPP : Hid (∀ W, Below w.heap.size w W → Calls Tryz.prog 48 #[.pointer (some ⟨mb, 0, none⟩), .int .i64 l.length] W fun r w' => r = .returned (.tuple #[.agg #[.float .f64 0, .float .f64 0], .bool false]) ∧ Below W.heap.size W w') := fun W hb' => by
    have hh : hasM M (l.length : Int) = false := by unfold hasM; rw [h.P]; simp
    have := point_walk (h.below hb').m (l.length : Int)
    rw [ptAt_no hh, hh] at this
    exact this
  have HPN : Hid (∀ W, Below w.heap.size w W → Calls Tryz.prog 48 #[.pointer (some ⟨mb, 0, none⟩), .int .i64 (-1)] W fun r w' => r = .returned (.tuple #[.agg #[.float .f64 0, .float .f64 0], .bool false]) ∧ Below W.heap.size W w') := fun W hb' => by
    have hh : hasM M (-1) = false := by unfold hasM; simp
    have := point_walk (h.below hb').m (-1)
    rw [ptAt_no hh, hh] at this
    exact this
  have HFE : Hid (∀ i, i < l.length → feq (l.getD i (0, 0)).1 (l.getD i (0, 0)).1 = true ∧ feq (l.getD i (0, 0)).2 (l.getD i (0, 0)).2 = true) := fun i hi => by
    have hm : l.getD i (0, 0) ∈ l := by rw [List.getD_eq_getElem?_getD, List.getElem?_eq_getElem hi]; exact List.getElem_mem hi
    have h1 := h.p64 _ hm
    have h2 := h.ok _ hm
    unfold ptOK at h2
    rw [Bool.and_eq_true] at h2
    have f1 := coordB_fin h1.1 h2.1
    have f2 := coordB_fin h1.2 h2.2
    rw [feq_val f1 f1, feq_val f2 f2]
    simp
  have HL := Lib.hid h.el
  have HSL : Hid ((spokesL M a).length ≤ 1000000000000) := by
    have := (sp15_is h.tw.s a)
    rw [← this]
    have he := h.el.1
    unfold Hid sp15L
    rw [List.length_append, List.length_map, List.length_map]
    have h1 := List.length_filter_le (fun x : Int × Int => x.2 == a) (edgeL M.ap M.P.length)
    have h2 := List.length_filter_le (fun x : Int × Int => x.1 == a) (edgeL M.ap M.P.length)
    omega
  have HLN2 : Hid (l.length ≤ 100 ∧ S.length ≤ 1000) := ⟨h.hl, h.hs⟩
  clear h ha hb
  generalize trisL M.ap M.P.length = TL at *
  generalize edgeL M.ap M.P.length = EL at *
  generalize bordL M.ap M.P.length = BL at *
  generalize spokesL M a = SL at *
  generalize apR T a b = AP at *
  generalize markL S (minI a b) (maxI a b) = MK at *
  have HST := Lib.hid (fun ad bd ca cb W (h1 : KCells encT W ad TL) (h2 : KCells encT W bd TL) => sameTris_walk TL ad bd ca cb W h1 h2 (by have := HL.out; omega))
  have HSE := Lib.hid (fun ad bd ca cb W (h1 : KCells encP W ad EL) (h2 : KCells encP W bd EL) => samePairs_walk EL ad bd ca cb W h1 h2 (by have := HL.out; omega))
  have HSB := Lib.hid (fun ad bd ca cb W (h1 : KCells encP W ad BL) (h2 : KCells encP W bd BL) => samePairs_walk BL ad bd ca cb W h1 h2 (by have := HL.out; omega))
  have HSS := Lib.hid (fun ad bd ca cb W (h1 : KCells encS W ad S) (h2 : KCells encS W bd S) => sameSegs_walk S ad bd ca cb W h1 h2 (by have := HLN2.out; omega))
  have HSI := Lib.hid (fun ad bd ca cb W (h1 : KCells encI W ad SL) (h2 : KCells encI W bd SL) => ints07 SL ad bd ca cb W h1 h2 HSL.out)
  clear HL HSL
  go_enter Tryz.func26, Tryz.ntmps26
  go_wp2_with (go_at_call 75; (with_reducible refine (HPO.out _ hbw).mono ?_); rintro r w1 ⟨ap, cp, rfl, HPC, b1⟩; have B1 := Lib.hid b1; clear b1)
  clear hbw
  have B1d : Hid (Below w.heap.size w w1.drew) := B1.out.drew
  go_upto_region 2 with fail
  dsimp only [List.append]
  go_cut [101] from 27 to 101 (fun s101 wx => s101 = .bool false ∧ Hid (Below w.heap.size w wx) ∧ Hid (Below w1.heap.size w1 wx))
  case first =>
    have D1d : Hid (Below w1.heap.size w1 w1.drew) := (Below.refl _ _).drew
    have n0 := HCX.out _ B1d.out
    rename (∀ (a : Act) (w : World), Code.wp _ _ _ a w → _) => hcA
    have HCA := Lib.hid (fun (_ : Unit) => hcA)
    clear hcA
    rename (∀ (a : Act) (w : World), Code.wp _ _ _ a w → _) => hcB
    have HCB := Lib.hid (fun (_ : Unit) => hcB)
    clear hcB
    go_region_held3 (fun W => W.cell? ⟨xb, 0, none⟩ = some (.slice ad l.length cap) ∧ W.cell? ⟨xb, 1, none⟩ = some (.slice gt T.length ct) ∧ W.cell? ⟨xb, 2, none⟩ = some (.slice gs S.length cs)) (first | exact n0 | exact n1 | exact n2 | exact n3 | exact n4 | exact n5 | exact n6 | exact n7 | exact n8 | exact n9 | exact n10 | exact n11 | exact n12 | exact n13 | exact n14)
      (first
        | (go_at_call 47; (with_reducible refine (HLN.out _ B1d.out).mono ?_); rintro r w2 ⟨rfl, e2⟩; obtain rfl := e2.symm)
        | (go_at_call 61; (with_reducible refine (HCN.out _ B1d.out).mono ?_); rintro r w3 ⟨rfl, e3⟩; obtain rfl := e3.symm)
        | (go_at_call 18; (with_reducible refine (HTM.out _ B1d.out).mono ?_); rintro r w4 ⟨a4, p4, rfl, k4, b4⟩; have B4 := Lib.hid (bseq B1d.out b4); have D4 := Lib.hid (bseq D1d.out b4); have hk4 := Lib.hid k4; have n1 := HCX.out _ B4.out; clear b4 k4)
        | (go_at_call 76; (with_reducible refine (HTX.out _ B4.out).mono ?_); rintro r w5 ⟨a5, p5, rfl, k5, b5⟩; have B5 := Lib.hid (bseq B4.out b5); have D5 := Lib.hid (bseq D4.out b5); have hk4b := Lib.hid (hk4.out.below b5); have hk5 := Lib.hid k5; have n2 := HCX.out _ B5.out; clear b5 k5)
        | (go_at_call 21; (with_reducible refine (HST.out _ _ _ _ _ hk4b.out hk5.out).mono ?_); rintro r w6 ⟨rfl, b6⟩; have B6 := Lib.hid (bseq B5.out b6); have D6 := Lib.hid (bseq D5.out b6); have n3 := HCX.out _ B6.out; clear b6)
        | (go_at_call 78; (with_reducible refine (HEM.out _ B6.out).mono ?_); rintro r w7 ⟨a7, p7, rfl, k7, b7⟩; have B7 := Lib.hid (bseq B6.out b7); have D7 := Lib.hid (bseq D6.out b7); have hk7 := Lib.hid k7; have n4 := HCX.out _ B7.out; clear b7 k7)
        | (go_at_call 79; (with_reducible refine (HEX.out _ B7.out).mono ?_); rintro r w8 ⟨a8, p8, rfl, k8, b8⟩; have B8 := Lib.hid (bseq B7.out b8); have D8 := Lib.hid (bseq D7.out b8); have hk7b := Lib.hid (hk7.out.below b8); have hk8 := Lib.hid k8; have n5 := HCX.out _ B8.out; clear b8 k8)
        | (go_at_call 77; (with_reducible refine (HSE.out _ _ _ _ _ hk7b.out hk8.out).mono ?_); rintro r w9 ⟨rfl, b9⟩; have B9 := Lib.hid (bseq B8.out b9); have D9 := Lib.hid (bseq D8.out b9); have n6 := HCX.out _ B9.out; clear b9)
        | (go_at_call 46; (with_reducible refine (HBM.out _ B9.out).mono ?_); rintro r w10 ⟨a10, p10, rfl, k10, b10⟩; have B10 := Lib.hid (bseq B9.out b10); have D10 := Lib.hid (bseq D9.out b10); have hk10 := Lib.hid k10; have n7 := HCX.out _ B10.out; clear b10 k10)
        | (go_at_call 80; (with_reducible refine (HBX.out _ B10.out).mono ?_); rintro r w11 ⟨a11, p11, rfl, k11, b11⟩; have B11 := Lib.hid (bseq B10.out b11); have D11 := Lib.hid (bseq D10.out b11); have hk10b := Lib.hid (hk10.out.below b11); have hk11 := Lib.hid k11; have n8 := HCX.out _ B11.out; clear b11 k11)
        | (go_at_call 77; (with_reducible refine (HSB.out _ _ _ _ _ hk10b.out hk11.out).mono ?_); rintro r w12 ⟨rfl, b12⟩; have B12 := Lib.hid (bseq B11.out b12); have D12 := Lib.hid (bseq D11.out b12); have n9 := HCX.out _ B12.out; clear b12)
        | (go_at_call 82; (with_reducible refine (HFM.out _ B12.out).mono ?_); rintro r w13 ⟨a13, p13, rfl, k13, b13⟩; have B13 := Lib.hid (bseq B12.out b13); have D13 := Lib.hid (bseq D12.out b13); have hk13 := Lib.hid k13; have hk14 := Lib.hid (HFX.out _ B13.out); have n10 := HCX.out _ B13.out; clear b13 k13)
        | (go_at_call 81; (with_reducible refine (HSS.out _ _ _ _ _ hk13.out hk14.out).mono ?_); rintro r w14 ⟨rfl, b14⟩; have B14 := Lib.hid (bseq B13.out b14); have D14 := Lib.hid (bseq D13.out b14); have n11 := HCX.out _ B14.out; clear b14)
        | (go_at_call 84; (with_reducible refine (HSM.out _ B14.out).mono ?_); rintro r w15 ⟨a15, p15, rfl, k15, b15⟩; have B15 := Lib.hid (bseq B14.out b15); have D15 := Lib.hid (bseq D14.out b15); have hk15 := Lib.hid k15; have n12 := HCX.out _ B15.out; clear b15 k15)
        | (go_at_call 85; (with_reducible refine (HSX.out _ B15.out).mono ?_); rintro r w16 ⟨a16, p16, rfl, k16, b16⟩; have B16 := Lib.hid (bseq B15.out b16); have D16 := Lib.hid (bseq D15.out b16); have hk15b := Lib.hid (hk15.out.below b16); have hk16 := Lib.hid k16; have n13 := HCX.out _ B16.out; clear b16 k16)
        | (go_at_call 83; (with_reducible refine (HSI.out _ _ _ _ _ hk15b.out hk16.out).mono ?_); rintro r w17 ⟨rfl, b17⟩; have B17 := Lib.hid (bseq B16.out b17); have D17 := Lib.hid (bseq D16.out b17); have n14 := HCX.out _ B17.out; clear b17))
    all_goals
      go_wp2_with fail
      go_meet
      exact ⟨rfl, B17.out, D17.out⟩
  case rest =>
    obtain ⟨rfl, B2, C2⟩ := hcut
    have HPC2 : Hid (0 < l.length → ∃ g, ap = some ⟨g, 0, none⟩ ∧ w.heap.size ≤ g ∧ FTail wc g l 0) := fun h0 => by
      obtain ⟨g, e, h1, h2⟩ := HPC.out h0
      exact ⟨g, e, h1, h2.below C2.out⟩
    clear HPC HPO HLN HCN HTM HTX HEM HEX HBM HBX HFM HFX HSM HSX HST HSE HSB HSS HSI
    go_wp2
    go_loopw [10] (fun s10 wr => ∃ i : Nat, i ≤ l.length ∧ s10 = .int .i64 i ∧ Hid (Below w.heap.size w wr) ∧ Hid (0 < l.length → ∃ g, ap = some ⟨g, 0, none⟩ ∧ w.heap.size ≤ g ∧ FTail wr g l i)) (fun s10 _ => l.length - (intOf s10).toNat)
    case atStart => exact ⟨0, Nat.zero_le _, rfl, B2.out, HPC2.out⟩
    case round =>
      obtain ⟨i, hi, rfl, HB, HF⟩ := hrel
      rename World => wr
      by_cases hlt : i < l.length
      · obtain ⟨g, rfl, hg, hft⟩ := HF.out (by omega)
        have HFT := Lib.hid hft
        have HGG := Lib.hid hg
        obtain ⟨p0, p1, pf⟩ := hft.2 i (Nat.le_refl _) hlt
        obtain ⟨c0, c1, c2⟩ := HCX.out _ HB.out
        obtain ⟨xg, xo, rfl, x0, x1⟩ := HPX.out _ i HB.out hlt
        have HPI := Lib.hid (fun W hb => HPT.out W i hlt hb)
        have HFI := Lib.hid (HFE.out i hlt)
        have HBO : Hid (∀ w2 : World, Below wr.heap.size wr w2 → Below w.heap.size w (w2.alloc (.cells #[.float .f64 (l.getD i (0, 0)).1, .float .f64 (l.getD i (0, 0)).2] 52))) := fun w2 b => (bseq HB.out b).alloc (bseq HB.out b).size _
        have HFO : Hid (∀ w2 : World, Below wr.heap.size wr w2 → FTail (w2.alloc (.cells #[.float .f64 (l.getD i (0, 0)).1, .float .f64 (l.getD i (0, 0)).2] 52)) g l i) := fun w2 b => HFT.out.below (b.alloc b.size _)
        have HZ := Lib.hid (fun W (hf : FTail W g l i) => hf.2 i (Nat.le_refl _) hlt)
        have HXZ := Lib.hid (fun W (hb : Below w.heap.size w W) => HPX.out W i hb hlt)
        clear p0 p1 pf c0 c1 c2 x0 x1 hft hg HF HPX HFE
        generalize l.getD i (0, 0) = pt at *
        obtain ⟨px, py⟩ := pt
        dsimp only at HPI HFI HBO HFO HZ HXZ
        have hq := neqPt px py HFI.out.1 HFI.out.2
        have hz : (i : Int) < (l.length : Int) := by omega
        have hi0 : (0 : Int) ≤ (i : Int) := by omega
        have hw1 : wrap64 ((i : Int) + 1) = (i : Int) + 1 := by have := HLN2.out; unfold wrap64; omega
        go_wp2_with (go_at_call 48; (with_reducible refine (HPI.out _ HB.out).mono ?_); rintro r w2 ⟨rfl, b2⟩; have BO2 := Lib.hid (HBO.out _ b2); have FO2 := Lib.hid (HFO.out _ b2); have QB := new2 w2 (.float .f64 px) (.float .f64 py) 52; obtain ⟨p0, p1, pf⟩ := HZ.out _ FO2.out; obtain ⟨c0, c1, c2⟩ := HCX.out _ BO2.out; obtain ⟨_, _, ee, x0, x1⟩ := HXZ.out _ BO2.out; cases ee; obtain ⟨b0, b1⟩ := QB; clear b2)
        go_upto_region 8 with fail
        go_quiet (fail)
        have HFP := Lib.hid ((FO2.out.below (below_q15 (Below.refl _ _) nq)).put (.float .f64 4635118810238550016))
        have HBP := Lib.hid ((below_q15 BO2.out nq).setCell (p := ⟨g, i * 2, none⟩) HGG.out (.float .f64 4635118810238550016))
        go_wp2
        go_roundw
        case rel => exact ⟨i + 1, by omega, by (try rw [hw1]); rfl, HBP.out, fun _ => ⟨g, rfl, HGG.out, HFP.out⟩⟩
        case measure => (try rw [hw1]); simp only [intOf]; omega
      · have e : i = l.length := by omega
        subst e
        have hz : ¬(l.length : Int) < (l.length : Int) := by omega
        clear HF
        go_wp2_with (first
          | (go_at_call 19; (with_reducible refine (HAM.out _ HB.out).mono ?_); rintro r w2 ⟨rfl, e2⟩; obtain rfl := e2.symm)
          | (go_at_call 74; (with_reducible refine (HAX.out _ HB.out).mono ?_); rintro r w3 ⟨rfl, e3⟩; obtain rfl := e3.symm)
          | (go_at_call 22; (with_reducible refine (HDM.out _ HB.out).mono ?_); rintro r w4 ⟨rfl, b4⟩; have B4 := Lib.hid (bseq HB.out b4))
          | (go_at_call 86; (with_reducible refine (HDX.out _ B4.out).mono ?_); rintro r w5 ⟨rfl, b5⟩; have B5 := Lib.hid (bseq B4.out b5))
          | (go_at_call 48; (with_reducible refine (HPP.out _ B5.out).mono ?_); rintro r w6 ⟨rfl, b6⟩; have B6 := Lib.hid (bseq B5.out (b6.alloc b6.size (.cells #[.float .f64 0, .float .f64 0] 52))))
          | (go_at_call 48; (with_reducible refine (HPN.out _ B6.out).mono ?_); rintro r w7 ⟨rfl, b7⟩; have B7 := Lib.hid (bseq B6.out (b7.alloc b7.size (.cells #[.float .f64 0, .float .f64 0] 52)))))

        go_ret
        exact ⟨by simp, B7.out⟩

end Go.Proofs.YtdoaniccefdkaaaGreatDoor
