/- Part of the proof. No conditions. -/
import Derived.Test.YtbagikgpgdlkcaaGreatDoorZe
set_option linter.all false
set_option maxHeartbeats 8000000
set_option maxRecDepth 100000
namespace Go.Proofs.YtbagikgpgdlkcaaGreatDoor
open Go.RowKit Tvf Go.Maps Go.WideMaps
theorem own15g (t : Tri3) (w : World) :
  Calls Tryz.prog 55 #[tv3 t] w fun r w' => r = .returned (tv3 (ownG t)) ∧ Below w.heap.size w w' := by
 obtain ⟨W0,hW0⟩ : ∃ W0 : World,W0 = (w.alloc (.cells #[.int .i64 t.1,.int .i64 t.2.1,.int .i64 t.2.2] tTri)).alloc (.cells #[.int .i64 0,.int .i64 0,.int .i64 0] tTri) := ⟨_,rfl⟩
 have HW0 := Lib.hid hW0
 have hs1 : (w.alloc (.cells #[.int .i64 t.1,.int .i64 t.2.1,.int .i64 t.2.2] tTri)).heap.size = w.heap.size + 1 := by simp
 have HA : Hid (Box3 tTri W0 w.heap.size (.int .i64 t.1) (.int .i64 t.2.1) (.int .i64 t.2.2)) := by rw [hW0]; exact (Box3.new _ _ _ _ _).al _
 have HR : Hid (Box3 tTri W0 (w.heap.size + 1) (.int .i64 0) (.int .i64 0) (.int .i64 0)) := by rw [hW0,← hs1]; exact Box3.new _ _ _ _ _
 have HB : Hid (Below w.heap.size w W0) := by rw [hW0]; exact ((Below.refl _ _).alloc (Nat.le_refl _) _).alloc (by simp) _
 clear hW0 hs1
 unfold tv3
 go_enter Tryz.func55,Tryz.ntmps55
 go_upto_block 0 with fail
 rw [← HW0.out]
 go_wp2_with fail
 go_loopw [] (fun wr => ∃ u : Tri3,Hid (ownG u = ownG t) ∧ Hid (Box3 tTri wr w.heap.size (.int .i64 u.1) (.int .i64 u.2.1) (.int .i64 u.2.2)) ∧ Hid (Box3 tTri wr (w.heap.size + 1) (.int .i64 0) (.int .i64 0) (.int .i64 0)) ∧ Hid (Below w.heap.size w wr)) (fun wr => rotG (cellI wr w.heap.size 0) (cellI wr w.heap.size 1) (cellI wr w.heap.size 2))
 case atStart => exact ⟨t,rfl,HA.out,HR.out,HB.out⟩
 case round =>
  obtain ⟨⟨u0,u1,u2⟩,HU,HA1,HR1,HB1⟩ := hrel
  obtain ⟨c0,c1,c2⟩ := HA1.out.c
  have f0 := HA1.out.fz 0
  have f1 := HA1.out.fz 1
  have f2 := HA1.out.fz 2
  have HA2 := Lib.hid (HA1.out.put (.int .i64 u1) (.int .i64 u2) (.int .i64 u0))
  have HR2 : Hid (Box3 tTri (((wr.setCell ⟨w.heap.size,0,none⟩ (.int .i64 u1)).setCell ⟨w.heap.size,1,none⟩ (.int .i64 u2)).setCell ⟨w.heap.size,2,none⟩ (.int .i64 u0)) (w.heap.size + 1) (.int .i64 0) (.int .i64 0) (.int .i64 0)) := ((HR1.out.far (by show w.heap.size + 1 ≠ w.heap.size; omega) _).far (by show w.heap.size + 1 ≠ w.heap.size; omega) _).far (by show w.heap.size + 1 ≠ w.heap.size; omega) _
  have HB2 : Hid (Below w.heap.size w (((wr.setCell ⟨w.heap.size,0,none⟩ (.int .i64 u1)).setCell ⟨w.heap.size,1,none⟩ (.int .i64 u2)).setCell ⟨w.heap.size,2,none⟩ (.int .i64 u0))) := ((HB1.out.setCell (p := ⟨w.heap.size,0,none⟩) (Nat.le_refl _) _).setCell (p := ⟨w.heap.size,1,none⟩) (Nat.le_refl _) _).setCell (p := ⟨w.heap.size,2,none⟩) (Nat.le_refl _) _
  by_cases h1 : u1 < u0
  ·go_wp2
   go_roundw
   case rel => exact ⟨(u1,u2,u0),(ownG_rot (t := (u0,u1,u2)) (by dsimp only; omega)).trans HU.out,HA2.out,HR2.out,HB2.out⟩
   case measure =>
    obtain ⟨e0,e1,e2⟩ := Box3.ints HA2.out
    obtain ⟨g0,g1,g2⟩ := Box3.ints HA1.out
    simp only [e0,e1,e2,g0,g1,g2]
    exact rotG_less (by omega)
  ·by_cases h2 : u2 < u0
   ·go_wp2
    go_roundw
    case rel => exact ⟨(u1,u2,u0),(ownG_rot (t := (u0,u1,u2)) (by dsimp only; omega)).trans HU.out,HA2.out,HR2.out,HB2.out⟩
    case measure =>
     obtain ⟨e0,e1,e2⟩ := Box3.ints HA2.out
     obtain ⟨g0,g1,g2⟩ := Box3.ints HA1.out
     simp only [e0,e1,e2,g0,g1,g2]
     exact rotG_less (by omega)
   ·have HLD : Hid (ownG t = (u0,u1,u2)) := by
     unfold Hid
     rw [← HU.out,ownG_lead (t := (u0,u1,u2)) (by dsimp only; omega)]
    obtain ⟨r0,r1,r2⟩ := HR1.out.c
    have g0 := HR1.out.fz 0
    have g1 := HR1.out.fz 1
    have g2 := HR1.out.fz 2
    obtain ⟨k0,k1,k2⟩ := (HR1.out.put (.int .i64 u0) (.int .i64 u1) (.int .i64 u2)).c
    go_wp2
    refine bodyPost_ret (by simp [results,Tryz.results55,go_sem,k0,k1,k2]; try rfl) rfl ?_
    rw [HLD.out]
    exact ⟨rfl,((HB1.out.setCell (p := ⟨w.heap.size + 1,0,none⟩) (by show w.heap.size ≤ w.heap.size + 1; omega) _).setCell (p := ⟨w.heap.size + 1,1,none⟩) (by show w.heap.size ≤ w.heap.size + 1; omega) _).setCell (p := ⟨w.heap.size + 1,2,none⟩) (by show w.heap.size ≤ w.heap.size + 1; omega) _⟩
theorem kill_take {T : List Tri3} {a b c : Int} {i : Nat} (hi : i < T.length) : killL (T.take (i + 1)) a b c = killL (T.take i) a b c ++ (if keepT a b c (T.getD i (0,0,0)) = true then [T.getD i (0,0,0)] else []) := by
 unfold killL
 rw [List.take_add_one,List.filter_append,List.getElem?_eq_getElem hi,List.getD_eq_getElem?_getD,List.getElem?_eq_getElem hi]
 simp only [Option.toList_some,Option.getD_some,List.filter_cons,List.filter_nil]
theorem killL_same {T : List Tri3} {a b c : Int} (h : (killL T a b c).length = T.length) : killL T a b c = T := by
 unfold killL at *
 rw [List.filter_eq_self]
 exact (filter_all_len _ _).1 h
theorem killL_len (T : List Tri3) (a b c : Int) : (killL T a b c).length ≤ T.length := List.length_filter_le _ _
theorem RMs.newR {w wr : World} {B xb : Nat} {P : List Pt} {ad : Option Addr} {cap : Nat} {T T' : List Tri3} {vT v : Value} {S : List Seg3} {vS : Value} (h : RMs w B xb P ad cap T vT S vS) (hb : Below w.heap.size w wr) (ho : wr.ownsRow w.heap.size 61 3 v T'.length (cellsK encT T')) :
  RMs (wr.setCell ⟨xb,1,none⟩ v) B xb P ad cap T' v S vS ∧ Stay (fun i => i = xb) w (wr.setCell ⟨xb,1,none⟩ v) := by
 have h1 := h.below hb
 have hx : xb < w.heap.size := h.box.lt
 have hlt : ∀ g,v.ownBlock = some g → w.heap.size ≤ g ∧ g < wr.heap.size := fun g e => ho.lt g e
 refine ⟨⟨Box3.set1 h1.box v,h1.pts.block (Nat.le_of_eq size_set.symm) (fun g e _ => heap_set_ne (h.px g e)),ownsRow_down h.bB (ownsRow_same ho (fun g e => heap_set_ne (fun q => by have := (hlt g e).1; omega))),ownsRow_same h1.seg (fun g e => heap_set_ne (fun q => h.sx (by rw [e,q]))),h.px,fun g e q => by have := h.pl g e; have := (hlt _ q).1; omega,h.ps,fun q => by have := (hlt xb q).1; omega,h.sx,fun b e q => by have := (hlt b e).1; have := (h.seg.lt b q).2; omega,by rw [size_set]; exact h1.bB,by rw [size_set]; exact h1.pl⟩,
  ⟨hb.os,hb.tape,hb.output,by rw [size_set]; exact hb.size,fun i hi hne => (heap_set_ne hne).trans (hb.block i hi)⟩⟩
theorem kill15s {w : World} {B xb : Nat} {P : List Pt} {ad : Option Addr} {cap : Nat} {T : List Tri3} {vT : Value} {S : List Seg3} {vS : Value} (h : RMs w B xb P ad cap T vT S vS) (hT : T.length ≤ 1000000) (a b c : Int) :
  Calls Tryz.prog 36 #[.pointer (some ⟨xb,0,none⟩),.int .i64 a,.int .i64 b,.int .i64 c] w fun r w' => r = .returned (.int .i64 (if (killL T a b c).length = T.length then 5 else 0)) ∧ ∃ vT', RMs w' B xb P ad cap (killL T a b c) vT' S vS ∧ Stay (fun i => i = xb) w w' ∧ (∀ i,vT'.ownBlock = some i → vT.ownBlock = some i ∨ w.heap.size ≤ i) := by
 obtain ⟨i0,hi,hz0', hz1', hz2'⟩ := info_parts infoTri
 have HM := Lib.hid h
 have HTL := Lib.hid hT
 obtain ⟨g,cp,n,hv,hn⟩ : ∃ g cp n,vT = .slice g n cp ∧ n = T.length := by
  rcases h.tri.2 with ⟨rfl,h0⟩ | ⟨g,cp,cur,rfl,_⟩
  ·exact ⟨none,0,0,rfl,h0.symm⟩
  ·exact ⟨_,_,_,rfl,rfl⟩
 subst hv
 have HG : Hid (∀ i W,i < n → Below w.heap.size w W → ∃ b,g = some ⟨b,0,none⟩ ∧ W.cell? ⟨b,i * 3,none⟩ = some (.int .i64 (T.getD i (0,0,0)).1) ∧ W.cell? ⟨b,i * 3 + 1,none⟩ = some (.int .i64 (T.getD i (0,0,0)).2.1) ∧ W.cell? ⟨b,i * 3 + 2,none⟩ = some (.int .i64 (T.getD i (0,0,0)).2.2)) := fun i W hi hb => by
  have ho := h.tri
  rcases ho.2 with ⟨_,h0⟩ | ⟨b,cp', cur,e,_⟩
  ·omega
  ·cases e
   obtain ⟨x0,x1,x2⟩ := tri_cells ho (i := i) (by omega)
   exact ⟨b,rfl,cell_keep x0 hb,cell_keep x1 hb,cell_keep x2 hb⟩
 have HX : Hid (∀ W,Below w.heap.size w W → W.cell? ⟨xb,1,none⟩ = some (.slice g n cp)) := fun W hb => cell_keep h.cells.2.1 hb
 have HN := Lib.hid hn
 have HOA : Hid (∀ W,Calls Tryz.prog 55 #[.agg #[.int .i64 a,.int .i64 b,.int .i64 c]] W fun r w' => r = .returned (.agg #[.int .i64 (ownG (a,b,c)).1,.int .i64 (ownG (a,b,c)).2.1,.int .i64 (ownG (a,b,c)).2.2]) ∧ Below W.heap.size W w') := fun W => own15g (a,b,c) W
 have HOT : Hid (∀ x y z W,Calls Tryz.prog 55 #[.agg #[.int .i64 x,.int .i64 y,.int .i64 z]] W fun r w' => r = .returned (.agg #[.int .i64 (ownG (x,y,z)).1,.int .i64 (ownG (x,y,z)).2.1,.int .i64 (ownG (x,y,z)).2.2]) ∧ Below W.heap.size W w') := fun x y z W => own15g (x,y,z) W
 have HNE : Hid (∀ x y z W,(binOp .neq 61 (.agg #[.int .i64 (ownG (x,y,z)).1,.int .i64 (ownG (x,y,z)).2.1,.int .i64 (ownG (x,y,z)).2.2]) (.agg #[.int .i64 (ownG (a,b,c)).1,.int .i64 (ownG (a,b,c)).2.1,.int .i64 (ownG (a,b,c)).2.2])).run Tryz.prog W = .ok (.bool (keepT a b c (x,y,z))) W) := fun x y z W => by
  rw [neqT]
  unfold keepT
  generalize ownG (x,y,z) = o
  generalize ownG (a,b,c) = q
  obtain ⟨o0,o1,o2⟩ := o
  obtain ⟨q0,q1,q2⟩ := q
  simp only [Prod.mk.injEq,Bool.decide_and]
  rfl
 have c2 := HX.out w (Below.refl _ _)
 obtain ⟨code,hcode⟩ : ∃ z,Hid ((if (killL T a b c).length = T.length then (5 : Int) else 0) = z) := ⟨_,rfl⟩
 rw [hcode.out]
 clear h hT hn
 go_enter Tryz.func36,Tryz.ntmps36
 go_wp2
 go_loopw [9,10] (fun s9 s10 wr => ∃ i : Nat,i ≤ n ∧ s10 = .int .i64 i ∧ Hid (TR w wr s9 (killL (T.take i) a b c))) (fun _ s10 _ => n - (intOf s10).toNat)
 case atStart => exact ⟨0,Nat.zero_le _,rfl,TR.nil (Below.refl _ _)⟩
 case round =>
  clear c2
  obtain ⟨i,hin,rfl,HR⟩ := hrel
  have c2 := HX.out _ HR.out.low
  obtain ⟨gl,cl,hv⟩ := HR.out.form
  subst hv
  by_cases hlt : i < n
  ·obtain ⟨bb,rfl,x0,x1,x2⟩ := HG.out i _ hlt HR.out.low
   have hz : (i : Int) < (n : Int) := by omega
   have hi0 : (0 : Int) ≤ (i : Int) := by omega
   have hw1 : wrap64 ((i : Int) + 1) = (i : Int) + 1 := by have := HTL.out; have := HN.out; unfold wrap64; omega
   have HTK := Lib.hid (kill_take (T := T) (a := a) (b := b) (c := c) (i := i) (by have := HN.out; omega))
   have HLEN : Hid ((killL (T.take i) a b c).length ≤ 1000000) := Nat.le_trans (killL_len _ _ _ _) (by rw [List.length_take]; have := HTL.out; omega)
   have HGC := Lib.hid (fun W hb => HG.out i W hlt hb)
   generalize T.getD i (0,0,0) = sg at *
   obtain ⟨s0,s1,s2⟩ := sg
   dsimp only at x0 x1 x2 HGC
   have HO1 := Lib.hid (HOT.out s0 s1 s2)
   have hne := HNE.out s0 s1 s2
   generalize ownG (s0,s1,s2) = o at *
   generalize ownG (a,b,c) = q at *
   generalize killL (T.take i) a b c = L at *
   have HPU : Hid (∀ wa g' c' w2,Below wr.heap.size wr wa → keepT a b c (s0,s1,s2) = true → w2.ownsRow w.heap.size 61 3 (.slice (some ⟨g', 0,none⟩) (L.length + 1) c') (L.length + 1) (cellsK encT L ++ encT (s0,s1,s2)) → (World.alloc wa (.cells #[.int .i64 s0,.int .i64 s1,.int .i64 s2] 61)).grownBy w2 (Value.slice gl L.length cl).ownBlock → TR w w2 (.slice (some ⟨g', 0,none⟩) (L.length + 1) c') (killL (T.take (i + 1)) a b c)) := fun wa g' c' w2 hba hk ho hg => by
    have e : killL (T.take (i + 1)) a b c = L ++ [(s0,s1,s2)] := by have := HTK.out; rw [if_pos hk] at this; exact this
    rw [e]
    exact HR.out.grow (n := L.length + 1) (hba.trans ((Below.refl _ _).alloc hba.size _)) hg (by simp) (by rw [cellsK_append,cellsK_one]; exact ho)
   cases hkp : keepT a b c (s0,s1,s2)
   ·have HL2 : Hid (killL (T.take (i + 1)) a b c = L) := by unfold Hid; rw [HTK.out,hkp]; simp
    rw [hkp] at hne
    clear HPU
    go_wp2_with (first
     |(go_at_call 55; (with_reducible refine (HO1.out _).mono ?_); rintro r w1 ⟨rfl,hb1⟩; have B1 := Lib.hid hb1)
     |(go_at_call 55; (with_reducible refine (HOA.out _).mono ?_); rintro r w2 ⟨rfl,hb2⟩; have B2 := Lib.hid (bseq B1.out hb2)))
    go_roundw
    case rel => exact ⟨i + 1,by omega,by (try rw [hw1]); rfl,by rw [HL2.out]; exact HR.out.below B2.out⟩
    case measure => (try rw [hw1]); simp only [intOf]; omega
   ·rw [hkp] at hne
    go_wp2_with (first
     |(go_at_call 55; (with_reducible refine (HO1.out _).mono ?_); rintro r w1 ⟨rfl,hb1⟩; have B1 := Lib.hid hb1; clear x0 x1 x2 c2)
     |(go_at_call 55; (with_reducible refine (HOA.out _).mono ?_); rintro r w2 ⟨rfl,hb2⟩; have B2 := Lib.hid (bseq B1.out hb2); have c2 := HX.out _ (bseq HR.out.low B2.out); obtain ⟨bb2,eb,x0,x1,x2⟩ := HGC.out _ (bseq HR.out.low B2.out); cases eb)
     |(at_builtin; refine wpList_append_lies _ rfl _ _ 23 rfl w.heap.size 61 i0 (.agg #[.int .i64 0,.int .i64 0,.int .i64 0]) 3 24 Tryz.underlying23 hi hz0' hz1' hz2' rfl (by decide) _ L.length (cellsK encT L) rfl (World.ownsRow.alloc (HR.out.below B2.out).own _) ⟨w2.heap.size,0,none⟩ 1 1 (encT (s0,s1,s2)) rfl ?qc1 ?qc2 ?qc3 (by decide) ?qc4 ?qc5 ?qc6 (w2.heap.size + 1) (by simp) ?_))
    case qc1 => rfl
    case qc2 => first | exact cells_new w2 (encT (s0,s1,s2)) 61 | exact fun _ _ h => h
    case qc3 => exact encT_one _
    case qc4 => have := HLEN.out; unfold maxLen; omega
    case qc5 => have := HLEN.out; omega
    case qc6 => have := (HR.out.below B2.out).low.size; simp; omega
    intro g' c' w3 hown hgrow hat hlt2
    have HP2 := Lib.hid (HPU.out w2 g' c' w3 B2.out hkp hown hgrow)
    clear hown hgrow hat hlt2 HPU
    go_wp2
    go_roundw
    case rel => exact ⟨i + 1,by omega,by (try rw [hw1]); rfl,HP2.out⟩
    case measure => (try rw [hw1]); simp only [intOf]; omega
  ·have e : i = n := by omega
   subst e
   have hz : ¬(i : Int) < (i : Int) := by omega
   have HNS := Lib.hid (HM.out.newR HR.out.low HR.out.own)
   have HB2 := Lib.hid (HM.out.box.below HR.out.low)
   have f2 := HB2.out.fz 1
   have HE : Hid (killL (T.take i) a b c = killL T a b c) := by unfold Hid; rw [HN.out,List.take_length]
   obtain ⟨k,hk⟩ : ∃ k,(killL (T.take i) a b c).length = k := ⟨_,rfl⟩
   rw [hk] at HNS HR ⊢
   rw [HE.out] at HNS HR hk
   have HK := Lib.hid hk
   clear hk
   by_cases hl : k = i
   ·subst hl
    have HS : Hid (killL T a b c = T) := killL_same (by rw [HK.out,HN.out])
    go_wp2
    go_ret
    rw [← hcode.out,HS.out,if_pos rfl]
    exact ⟨rfl,_,HM.out.below HR.out.low,Stay.of_below HR.out.low,fun i e => .inl e⟩
   ·have hl' : ¬(k : Int) = (i : Int) := by omega
    have hb : ((k : Int) == (i : Int)) = false := by rw [beq_eq_false_iff_ne]; omega
    go_wp2
    go_ret
    rw [← hcode.out,if_neg (by rw [HK.out,← HN.out]; exact hl)]
    exact ⟨rfl,_,HNS.out.1,HNS.out.2,fun j e => .inr (HR.out.own.lt j e).1⟩
end Go.Proofs.YtbagikgpgdlkcaaGreatDoor
