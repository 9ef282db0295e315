/- Part of the proof. No conditions. -/
import Derived.Test.YtbagikgpgdlkcaaGreatDoorZN
set_option linter.all false
set_option maxHeartbeats 8000000
set_option maxRecDepth 100000
namespace Go.Proofs.YtbagikgpgdlkcaaGreatDoor
open Go.RowKit Go.Maps Go.WideMaps
theorem infoPair : (Tryz.prog.info? 42).map (fun i => (i.zero,i.size,i.bytes)) = some (some (.agg #[.int .i64 0,.int .i64 0]),2,16) := by kernel_rfl
theorem pair_len {f : Int → Int → Option Int} {g : Int × Int → Option (Int × Int)} {n : Nat} {S : List (Int × Int)} {lf : Value → Bool} {L : List (Int × Int)} (hl : n ≤ 1048576) (hS : S.length ≤ n * n) (hm : ∀ y,(∃ x : Int × Int,f x.1 x.2 ≠ none ∧ g x = some y) ↔ y ∈ S) (h : GotG f g lf L) : L.length ≤ 1099511627776 := by
 have h1 := nodup_len L S h.1 fun y hy => by
  obtain ⟨x,a,b,_⟩ := (h.2 y).1 hy
  exact (hm y).1 ⟨x,a,b⟩
 have h3 : n * n ≤ 1048576 * 1048576 := Nat.mul_le_mul hl hl
 omega
theorem bordL_short (ap : Int → Int → Option Int) (n : Nat) : (bordL ap n).length ≤ n * n := Nat.le_trans (List.length_filter_le _ _) (Nat.le_of_eq (idxL_len n))
theorem edgeL_short (ap : Int → Int → Option Int) (n : Nat) : (edgeL ap n).length ≤ n * n := Nat.le_trans (List.length_filter_le _ _) (Nat.le_of_eq (idxL_len n))
def RdE (w : World) (mb o ba eb : Nat) (x y : Value) : Prop := w.cell? ⟨mb,o,none⟩ = some (.map (some ba)) ∧ w.cell? ⟨eb,0,none⟩ = some x ∧ w.cell? ⟨eb,1,none⟩ = some y
theorem RdE.below {w w' : World} {mb o ba eb : Nat} {x y : Value} (h : RdE w mb o ba eb x y) (hb : Below w.heap.size w w') : RdE w' mb o ba eb x y :=
 ⟨(hb.cell (p := ⟨mb,o,none⟩) (World.block_lt_of_cell? _ _ h.1)).trans h.1,(hb.cell (p := ⟨eb,0,none⟩) (World.block_lt_of_cell? _ _ h.2.1)).trans h.2.1,(hb.cell (p := ⟨eb,1,none⟩) (World.block_lt_of_cell? _ _ h.2.2)).trans h.2.2⟩
theorem below_none {w w' : World} (h : Below w.heap.size w w') : w.grownBy w' none := ⟨h.os,h.tape,h.output,h.size,fun i hi _ => h.block i hi⟩
theorem within_i64 {ap : Int → Int → Option Int} {n : Nat} (hw : Within ap n) (hl : n ≤ 1048576) {a b c : Int} (h : ap a b = some c) : i64ok a ∧ i64ok b := by
 have := hw a b (by rw [h]; simp)
 unfold i64ok; omega
theorem border_walk {w : World} {mb n : Nat} {M : MeshM} {F : Nat → Prop} (h : MeshAt w mb n M F) (hw : Within M.ap M.P.length) (hl : M.P.length ≤ 1048576) :
  Calls Tryz.prog 68 #[.pointer (some ⟨mb,0,none⟩)] w fun r w' => ∃ v,r = .returned v ∧ w'.ownsRow (w.heap.size + 1) 42 2 v (bordL M.ap M.P.length).length (cellsK encP (bordL M.ap M.P.length)) ∧ Below w.heap.size w w' := by
 obtain ⟨ba,bs,bf,pv,sv,h⟩ := h
 have c1 := h.c1
 have HC1 := Lib.hid h.c1
 have HF := Lib.hid h.apm
 have HBA := Lib.hid (h.flt ba h.fba)
 have HMB := Lib.hid (h.flt mb h.fmb)
 have HW := Lib.hid hw
 have HL := Lib.hid hl
 clear h hw hl
 obtain ⟨i0,hi,hz0,hz1,hz2⟩ := info_parts infoPair
 go_enter Tryz.func68,Tryz.ntmps68
 go_wp2_with (at_range; refine wp_range _ rfl _ 76 rfl 80 3 edgeLaw Tryz.underlying76 ba n _ rfl HF.out ?_; intro w0 hrg0 hg0 hs0)
 go_frame
 have HR0 := Lib.hid hrg0
 have HG0 := Lib.hid hg0
 have HS0 := Lib.hid hs0
 clear hrg0 hg0 hs0 c1
 go_loopw [3] (fun s3 wr => ∃ (L : List (Int × Int)) (lf : Value → Bool) (cnt : Nat),Hid (FRange Tryz.prog wr 80 ba w.heap.size n (edgeV M.ap) lf cnt) ∧ Hid (wr.ownsRow (w.heap.size + 1) 42 2 s3 L.length (cellsK encP L)) ∧ Hid (GotG M.ap (bordG M.ap) lf L) ∧ Hid (Below w.heap.size w wr)) (fun _ wr => wr.rangeLeft ba w.heap.size)
 case atStart =>
  refine ⟨[],_,_,HR0.out,World.ownsRow_nil _ _ _ _,GotG.start (fun a b hab => ?_),?_⟩
  ·rw [edgeV_isSome]; exact Option.isSome_iff_ne_none.2 hab
  ·exact (Below.refl _ w).grown HG0.out (Nat.le_refl _) (fun j hj => by cases hj)
 case round =>
  obtain ⟨L,lf,cnt,HR,HO,HGO,HB⟩ := hrel
  go_wp2_with (first | (at_next; refine wp_next _ rfl _ rfl 80 edgeLaw (fun x : Int × Int => kE x.1 x.2) vI ba w.heap.size n (edgeV M.ap) (fun key h => edgeV_ne h) (fun key v h => edgeV_val h) lf cnt rfl HR.out ?_ ?_) | go_in)
  ·intro hd
   have HM : Hid (∀ y,y ∈ L ↔ y ∈ bordL M.ap M.P.length) := fun y => (HGO.out.done hd y).trans (bordG_mem HW.out y)
   have HND := Lib.hid HGO.out.1
   clear hd
   have HSO := Lib.hid (pairs_walk L u3 wr HO.out (by have := pair_len HL.out (bordL_short M.ap M.P.length) (bordG_mem HW.out) HGO.out; omega))
   go_wp2_with (go_at_call 60; refine HSO.out.mono ?_; rintro r w2 ⟨rfl,l', h1,h2,h3,h4⟩)
   go_ret
   have e : l' = bordL M.ap M.P.length := pw_unique ltP_irr ltP_trans _ _ (pw_strict ltP_tot l' (h1.nodup_iff.2 HND.out) h2) (bordL_sorted _ _) fun y => h1.mem_iff.trans (HM.out y)
   have el : L.length = (bordL M.ap M.P.length).length := by rw [← e,h1.length_eq]
   refine ⟨_,rfl,?_,HB.out.grown h4 HB.out.size (fun j hj => by have := (HO.out.lt _ hj).1; omega)⟩
   rw [← el,← e]
   exact h3
  ·intro a b c w1 cnt1 lf1 hlx hfx hl1 hl2 hrg1 hlt1 hg1 hs1 hen
   have HX1 := Lib.hid (edgeV_some hfx)
   have HRG := Lib.hid hrg1
   have HG1 := Lib.hid hg1
   have HLT : Hid (w1.rangeLeft ba w.heap.size < wr.rangeLeft ba w.heap.size) := by unfold Hid; rw [hrg1.left_eq,HR.out.left_eq]; exact hlt1
   have HO1 : Hid (w1.ownsRow (w.heap.size + 1) 42 2 u3 L.length (cellsK encP L)) := HO.out.kept HG1.out (by
    cases hv : u3.ownBlock with
    | none => exact .inl rfl
    | some g => right; intro e; cases e; have := (HO.out.lt _ hv).1; omega)
   have HLX := Lib.hid hlx
   have HL1 := Lib.hid hl1
   have HL2 := Lib.hid hl2
   clear hlx hfx hl1 hl2 hrg1 hlt1 hg1 hs1
   simp only [kE,vI] at hen
   have HLEN := Lib.hid (pair_len HL.out (bordL_short M.ap M.P.length) (bordG_mem HW.out) HGO.out)
   have HI := Lib.hid (within_i64 HW.out HL.out HX1.out)
   have HB1 := Lib.hid (HB.out.grown HG1.out HB.out.size (fun j hj => by cases hj; exact Nat.le_refl _))
   obtain ⟨W,hW⟩ : ∃ W,W = w1.alloc (.cells #[.int .i64 a,.int .i64 b] 80) := ⟨_,rfl⟩
   have HWB : Hid (Below w1.heap.size w1 W) := by rw [hW]; exact (Below.refl _ _).alloc (Nat.le_refl _) _
   have n1 : RdE W mb 1 ba w1.heap.size (.int .i64 a) (.int .i64 b) := by
    refine ⟨?_,?_,?_⟩
    ·exact (HWB.out.cell (p := ⟨mb,1,none⟩) (Nat.lt_of_lt_of_le HMB.out HB1.out.size)).trans ((HB1.out.cell (p := ⟨mb,1,none⟩) HMB.out).trans HC1.out)
    ·rw [hW,World.cell?_alloc_at _ _ _ _ rfl]; rfl
    ·rw [hW,World.cell?_alloc_at _ _ _ _ rfl]; rfl
   have HT := Lib.hid (turned_walk a b)
   unfold kE at HT
   have HLK := Lib.hid (fun (w2 : World) (hb : Below w1.heap.size w1 w2) => lookE (w := w2) (HRG.out.kept (below_none hb) (by simp) (by simp)).owns HI.out.2 HI.out.1)
   have HW' := Lib.hid hW
   clear hW
   have HBI : Hid ((M.ap b a).isSome = inB M.ap (sw (a,b))) := rfl
   generalize hq : (M.ap b a).isSome = q at *
   have HQ := Lib.hid hq
   clear hq
   go_wp2
   rw [← HW'.out]
   go_region_held3 (fun w' => w'.cell? ⟨mb,1,none⟩ = some (.map (some ba)) ∧ w'.cell? ⟨w1.heap.size,0,none⟩ = some (.int .i64 a) ∧ w'.cell? ⟨w1.heap.size,1,none⟩ = some (.int .i64 b)) (first | assumption | exact n1 | exact n2)
    (first | (go_at_call 59; refine (HT.out _).mono ?_; rintro r w2 ⟨rfl,hb2⟩; have n2 := RdE.below (w := W.drew) n1 hb2; have l2 := HLK.out w2 (HWB.out.drew.trans (hb2.mono HWB.out.size))))
   have HB2 : Hid (Below w1.heap.size w1 w2) := HWB.out.drew.trans (hb2.mono HWB.out.size)
   have n2x := n2.2.1
   have n2y := n2.2.2
   clear n1 n2 l2 hb2 HT HLK hen
   have HR2 : Hid (FRange Tryz.prog w2 80 ba w.heap.size n (edgeV M.ap) lf1 cnt1) := HRG.out.kept (below_none HB2.out) (by simp) (by simp)
   have HO2 : Hid (w2.ownsRow (w.heap.size + 1) 42 2 u3 L.length (cellsK encP L)) := HO1.out.kept (below_none HB2.out) (by cases u3.ownBlock <;> simp)
   cases q
   ·have HGA : Hid (GotG M.ap (bordG M.ap) lf1 (L ++ [(a,b)])) := HGO.out.add bordG_inj (x := (a,b)) (by dsimp only; rw [HX1.out]; simp) HLX.out (by unfold bordG; rw [← HBI.out]; rfl) HL1.out HL2.out
    go_wp2_with (first | (at_builtin; refine wpList_append_own _ rfl _ _ 38 rfl (w.heap.size + 1) 42 i0 (.agg #[.int .i64 0,.int .i64 0]) 2 16 Tryz.underlying38 hi hz0 hz1 hz2 rfl (by decide) u3 L.length (cellsK encP L) rfl (HO2.out.alloc _) ⟨w2.heap.size,0,none⟩ 1 1 (encP (a,b)) rfl ?qc1 ?qc2 ?qc3 ?qc4 ?qc5 ?qc6 ?_) | go_in)
    case qc1 => rfl
    case qc2 => exact cells_new w2 (encP (a,b)) 42
    case qc3 => exact encP_one _
    case qc4 => have := HLEN.out; unfold maxLen; omega
    case qc5 => have := HLEN.out; omega
    case qc6 => have := HB.out.size; have := HG1.out.size; have := HB2.out.size; have := HRG.out.lt; simp; omega
    intro v' w3 hown hgrow hnil
    obtain ⟨f1,f2⟩ := range_round rfl HBA.out (Nat.lt_succ_self _) HB.out HG1.out HRG.out (HB2.out.alloc HB2.out.size _) HO1.out hgrow
    have HF1 := Lib.hid f1
    have HF2 := Lib.hid f2
    have HOW : Hid (w3.ownsRow (w.heap.size + 1) 42 2 v' (L ++ [(a,b)]).length (cellsK encP (L ++ [(a,b)]))) := by
     unfold Hid; rw [cellsK_append,cellsK_one,List.length_append]; exact hown
    clear f1 f2 hown hgrow hnil
    go_wp2
    go_roundw
    case rel => exact ⟨L ++ [(a,b)],lf1,cnt1,HF1.out,HOW.out,HGA,HF2.out⟩
    case measure => rw [HF1.out.left_eq,← HRG.out.left_eq]; exact HLT.out
   ·have HGA : Hid (GotG M.ap (bordG M.ap) lf1 L) := HGO.out.skip (x := (a,b)) (by unfold bordG; rw [← HBI.out]; rfl) HL2.out
    go_wp2
    go_roundw
    case rel => exact ⟨L,lf1,cnt1,HR2.out,HO2.out,HGA,HB1.out.trans (HB2.out.mono HB1.out.size)⟩
    case measure => rw [HR2.out.left_eq,← HRG.out.left_eq]; exact HLT.out
theorem edges_walk {w : World} {mb n : Nat} {M : MeshM} {F : Nat → Prop} (h : MeshAt w mb n M F) (hw : Within M.ap M.P.length) (hr : Rot M.ap) (hl : M.P.length ≤ 1048576) :
  Calls Tryz.prog 25 #[.pointer (some ⟨mb,0,none⟩)] w fun r w' => ∃ v,r = .returned v ∧ w'.ownsRow (w.heap.size + 1) 42 2 v (edgeL M.ap M.P.length).length (cellsK encP (edgeL M.ap M.P.length)) ∧ Below w.heap.size w w' := by
 obtain ⟨ba,bs,bf,pv,sv,h⟩ := h
 have c1 := h.c1
 have HC1 := Lib.hid h.c1
 have HF := Lib.hid h.apm
 have HBA := Lib.hid (h.flt ba h.fba)
 have HMB := Lib.hid (h.flt mb h.fmb)
 have HW := Lib.hid hw
 have HRT := Lib.hid hr
 have HL := Lib.hid hl
 clear h hw hl hr
 obtain ⟨i0,hi,hz0,hz1,hz2⟩ := info_parts infoPair
 go_enter Tryz.func25,Tryz.ntmps25
 go_wp2_with (at_range; refine wp_range _ rfl _ 76 rfl 80 3 edgeLaw Tryz.underlying76 ba n _ rfl HF.out ?_; intro w0 hrg0 hg0 hs0)
 go_frame
 have HR0 := Lib.hid hrg0
 have HG0 := Lib.hid hg0
 have HS0 := Lib.hid hs0
 clear hrg0 hg0 hs0 c1
 go_loopw [3] (fun s3 wr => ∃ (L : List (Int × Int)) (lf : Value → Bool) (cnt : Nat),Hid (FRange Tryz.prog wr 80 ba w.heap.size n (edgeV M.ap) lf cnt) ∧ Hid (wr.ownsRow (w.heap.size + 1) 42 2 s3 L.length (cellsK encP L)) ∧ Hid (GotG M.ap (edgeG M.ap) lf L) ∧ Hid (Below w.heap.size w wr)) (fun _ wr => wr.rangeLeft ba w.heap.size)
 case atStart =>
  refine ⟨[],_,_,HR0.out,World.ownsRow_nil _ _ _ _,GotG.start (fun a b hab => ?_),?_⟩
  ·rw [edgeV_isSome]; exact Option.isSome_iff_ne_none.2 hab
  ·exact (Below.refl _ w).grown HG0.out (Nat.le_refl _) (fun j hj => by cases hj)
 case round =>
  obtain ⟨L,lf,cnt,HR,HO,HGO,HB⟩ := hrel
  go_wp2_with (first | (at_next; refine wp_next _ rfl _ rfl 80 edgeLaw (fun x : Int × Int => kE x.1 x.2) vI ba w.heap.size n (edgeV M.ap) (fun key h => edgeV_ne h) (fun key v h => edgeV_val h) lf cnt rfl HR.out ?_ ?_) | go_in)
  ·intro hd
   have HM : Hid (∀ y,y ∈ L ↔ y ∈ edgeL M.ap M.P.length) := fun y => (HGO.out.done hd y).trans (edgeG_mem HW.out HRT.out y)
   have HND := Lib.hid HGO.out.1
   clear hd
   have HSO := Lib.hid (pairs_walk L u3 wr HO.out (by have := pair_len HL.out (edgeL_short M.ap M.P.length) (edgeG_mem HW.out HRT.out) HGO.out; omega))
   go_wp2_with (go_at_call 60; refine HSO.out.mono ?_; rintro r w2 ⟨rfl,l', h1,h2,h3,h4⟩)
   go_ret
   have e : l' = edgeL M.ap M.P.length := pw_unique ltP_irr ltP_trans _ _ (pw_strict ltP_tot l' (h1.nodup_iff.2 HND.out) h2) (edgeL_sorted _ _) fun y => h1.mem_iff.trans (HM.out y)
   have el : L.length = (edgeL M.ap M.P.length).length := by rw [← e,h1.length_eq]
   refine ⟨_,rfl,?_,HB.out.grown h4 HB.out.size (fun j hj => by have := (HO.out.lt _ hj).1; omega)⟩
   rw [← el,← e]
   exact h3
  ·intro a b c w1 cnt1 lf1 hlx hfx hl1 hl2 hrg1 hlt1 hg1 hs1 hen
   have HX1 := Lib.hid (edgeV_some hfx)
   have HRG := Lib.hid hrg1
   have HG1 := Lib.hid hg1
   have HLT : Hid (w1.rangeLeft ba w.heap.size < wr.rangeLeft ba w.heap.size) := by unfold Hid; rw [hrg1.left_eq,HR.out.left_eq]; exact hlt1
   have HO1 : Hid (w1.ownsRow (w.heap.size + 1) 42 2 u3 L.length (cellsK encP L)) := HO.out.kept HG1.out (by
    cases hv : u3.ownBlock with
    | none => exact .inl rfl
    | some g => right; intro e; cases e; have := (HO.out.lt _ hv).1; omega)
   have HLX := Lib.hid hlx
   have HL1 := Lib.hid hl1
   have HL2 := Lib.hid hl2
   clear hlx hfx hl1 hl2 hrg1 hlt1 hg1 hs1
   simp only [kE,vI] at hen
   have HLEN := Lib.hid (pair_len HL.out (edgeL_short M.ap M.P.length) (edgeG_mem HW.out HRT.out) HGO.out)
   have HI := Lib.hid (within_i64 HW.out HL.out HX1.out)
   have HB1 := Lib.hid (HB.out.grown HG1.out HB.out.size (fun j hj => by cases hj; exact Nat.le_refl _))
   obtain ⟨W,hW⟩ : ∃ W,W = w1.alloc (.cells #[.int .i64 a,.int .i64 b] 80) := ⟨_,rfl⟩
   have HWB : Hid (Below w1.heap.size w1 W) := by rw [hW]; exact (Below.refl _ _).alloc (Nat.le_refl _) _
   have n1 : RdE W mb 1 ba w1.heap.size (.int .i64 a) (.int .i64 b) := by
    refine ⟨?_,?_,?_⟩
    ·exact (HWB.out.cell (p := ⟨mb,1,none⟩) (Nat.lt_of_lt_of_le HMB.out HB1.out.size)).trans ((HB1.out.cell (p := ⟨mb,1,none⟩) HMB.out).trans HC1.out)
    ·rw [hW,World.cell?_alloc_at _ _ _ _ rfl]; rfl
    ·rw [hW,World.cell?_alloc_at _ _ _ _ rfl]; rfl
   have HT := Lib.hid (turned_walk a b)
   unfold kE at HT
   have HLK := Lib.hid (fun (w2 : World) (hb : Below w1.heap.size w1 w2) => lookE (w := w2) (HRG.out.kept (below_none hb) (by simp) (by simp)).owns HI.out.2 HI.out.1)
   have HW' := Lib.hid hW
   clear hW
   have HBI : Hid ((M.ap b a).isSome = inB M.ap (sw (a,b))) := rfl
   generalize hq : (M.ap b a).isSome = q at *
   have HQ := Lib.hid hq
   clear hq
   go_wp2
   rw [← HW'.out]
   go_region_held3 (fun w' => w'.cell? ⟨mb,1,none⟩ = some (.map (some ba)) ∧ w'.cell? ⟨w1.heap.size,0,none⟩ = some (.int .i64 a) ∧ w'.cell? ⟨w1.heap.size,1,none⟩ = some (.int .i64 b)) (first | assumption | exact n1 | exact n2)
    (first | (go_at_call 59; refine (HT.out _).mono ?_; rintro r w2 ⟨rfl,hb2⟩; have n2 := RdE.below (w := W.drew) n1 hb2; have l2 := HLK.out w2 (HWB.out.drew.trans (hb2.mono HWB.out.size))))
   have HB2 : Hid (Below w1.heap.size w1 w2) := HWB.out.drew.trans (hb2.mono HWB.out.size)
   have n2x := n2.2.1
   have n2y := n2.2.2
   clear n1 n2 l2 hb2 HT HLK hen
   have HR2 : Hid (FRange Tryz.prog w2 80 ba w.heap.size n (edgeV M.ap) lf1 cnt1) := HRG.out.kept (below_none HB2.out) (by simp) (by simp)
   have HO2 : Hid (w2.ownsRow (w.heap.size + 1) 42 2 u3 L.length (cellsK encP L)) := HO1.out.kept (below_none HB2.out) (by cases u3.ownBlock <;> simp)
   have HOWN := Lib.hid (own_walk a b)
   obtain ⟨u,HU⟩ : ∃ u,Hid (minI a b = u) := ⟨_,rfl⟩
   obtain ⟨v,HV⟩ : ∃ v,Hid (maxI a b = v) := ⟨_,rfl⟩
   rw [HU.out,HV.out] at HOWN
   unfold kE at HOWN
   by_cases q1 : a < b
   ·
    have HGA : Hid (GotG M.ap (edgeG M.ap) lf1 (L ++ [(u,v)])) := HGO.out.add edgeG_inj (x := (a,b)) (by dsimp only; rw [HX1.out]; simp) HLX.out (by unfold edgeG; rw [if_pos (.inl q1)]; dsimp only; rw [HU.out,HV.out]) HL1.out HL2.out
    go_wp2_with (first
     |(go_at_call 48; refine (HOWN.out _).mono ?_; rintro r w3 ⟨rfl,hb3⟩)
     |(at_builtin; refine wpList_append_own _ rfl _ _ 38 rfl (w.heap.size + 1) 42 i0 (.agg #[.int .i64 0,.int .i64 0]) 2 16 Tryz.underlying38 hi hz0 hz1 hz2 rfl (by decide) u3 L.length (cellsK encP L) rfl (World.ownsRow.alloc (HO2.out.kept (below_none hb3) (by cases u3.ownBlock <;> simp)) _) ⟨w3.heap.size,0,none⟩ 1 1 (encP (u,v)) rfl ?qc1 ?qc2 ?qc3 ?qc4 ?qc5 ?qc6 ?_)
     | go_in)
    case qc1 => rfl
    case qc2 => exact cells_new w3 (encP (u,v)) 42
    case qc3 => exact encP_one _
    case qc4 => have := HLEN.out; unfold maxLen; omega
    case qc5 => have := HLEN.out; omega
    case qc6 => have := HB.out.size; have := HG1.out.size; have := HB2.out.size; have := hb3.size; have := HRG.out.lt; simp; omega
    intro v' w4 hown hgrow hnil
    obtain ⟨f1,f2⟩ := range_round rfl HBA.out (Nat.lt_succ_self _) HB.out HG1.out HRG.out (Below.alloc (HB2.out.trans (hb3.mono HB2.out.size)) (Nat.le_trans HB2.out.size hb3.size) _) HO1.out hgrow
    have HF1 := Lib.hid f1
    have HF2 := Lib.hid f2
    have HOW : Hid (w4.ownsRow (w.heap.size + 1) 42 2 v' (L ++ [(u,v)]).length (cellsK encP (L ++ [(u,v)]))) := by
     unfold Hid; rw [cellsK_append,cellsK_one,List.length_append]; exact hown
    clear f1 f2 hown hgrow hnil hb3
    go_wp2
    go_roundw
    case rel => exact ⟨L ++ [(u,v)],lf1,cnt1,HF1.out,HOW.out,HGA,HF2.out⟩
    case measure => rw [HF1.out.left_eq,← HRG.out.left_eq]; exact HLT.out
   ·cases q
    ·
     have HGA : Hid (GotG M.ap (edgeG M.ap) lf1 (L ++ [(u,v)])) := HGO.out.add edgeG_inj (x := (a,b)) (by dsimp only; rw [HX1.out]; simp) HLX.out (by unfold edgeG; rw [if_pos (.inr HBI.out.symm)]; dsimp only; rw [HU.out,HV.out]) HL1.out HL2.out
     go_wp2_with (first
      |(go_at_call 48; refine (HOWN.out _).mono ?_; rintro r w3 ⟨rfl,hb3⟩)
      |(at_builtin; refine wpList_append_own _ rfl _ _ 38 rfl (w.heap.size + 1) 42 i0 (.agg #[.int .i64 0,.int .i64 0]) 2 16 Tryz.underlying38 hi hz0 hz1 hz2 rfl (by decide) u3 L.length (cellsK encP L) rfl (World.ownsRow.alloc (HO2.out.kept (below_none hb3) (by cases u3.ownBlock <;> simp)) _) ⟨w3.heap.size,0,none⟩ 1 1 (encP (u,v)) rfl ?qc1 ?qc2 ?qc3 ?qc4 ?qc5 ?qc6 ?_)
      | go_in)
     case qc1 => rfl
     case qc2 => exact cells_new w3 (encP (u,v)) 42
     case qc3 => exact encP_one _
     case qc4 => have := HLEN.out; unfold maxLen; omega
     case qc5 => have := HLEN.out; omega
     case qc6 => have := HB.out.size; have := HG1.out.size; have := HB2.out.size; have := hb3.size; have := HRG.out.lt; simp; omega
     intro v' w4 hown hgrow hnil
     obtain ⟨f1,f2⟩ := range_round rfl HBA.out (Nat.lt_succ_self _) HB.out HG1.out HRG.out (Below.alloc (HB2.out.trans (hb3.mono HB2.out.size)) (Nat.le_trans HB2.out.size hb3.size) _) HO1.out hgrow
     have HF1 := Lib.hid f1
     have HF2 := Lib.hid f2
     have HOW : Hid (w4.ownsRow (w.heap.size + 1) 42 2 v' (L ++ [(u,v)]).length (cellsK encP (L ++ [(u,v)]))) := by
      unfold Hid; rw [cellsK_append,cellsK_one,List.length_append]; exact hown
     clear f1 f2 hown hgrow hnil hb3
     go_wp2
     go_roundw
     case rel => exact ⟨L ++ [(u,v)],lf1,cnt1,HF1.out,HOW.out,HGA,HF2.out⟩
     case measure => rw [HF1.out.left_eq,← HRG.out.left_eq]; exact HLT.out
    ·have HGA : Hid (GotG M.ap (edgeG M.ap) lf1 L) := HGO.out.skip (x := (a,b)) (by unfold edgeG; rw [if_neg]; rintro (e | e); exact q1 e; rw [← HBI.out] at e; cases e) HL2.out
     go_wp2
     go_roundw
     case rel => exact ⟨L,lf1,cnt1,HR2.out,HO2.out,HGA,HB1.out.trans (HB2.out.mono HB1.out.size)⟩
     case measure => rw [HR2.out.left_eq,← HRG.out.left_eq]; exact HLT.out
structure MB (w0 w : World) (mb n : Nat) (M : MeshM) (F : Nat → Prop) : Prop where
 at_ : MeshAt w mb n M F
 new : ∀ i,F i → w0.heap.size ≤ i
 keep : Below w0.heap.size w0 w
def Fx (F : Nat → Prop) (w w' : World) : Nat → Prop := fun i => F i ∨ (w.heap.size ≤ i ∧ i < w'.heap.size)
theorem MB.below {w0 w w' : World} {mb n : Nat} {M : MeshM} {F : Nat → Prop} (h : MB w0 w mb n M F) (hb : Below w.heap.size w w') : MB w0 w' mb n M F :=
 ⟨h.at_.below hb,h.new,h.keep.trans (hb.mono h.keep.size)⟩
theorem MB.stay {w0 w w' : World} {mb n n' : Nat} {M M' : MeshM} {F : Nat → Prop} (h : MB w0 w mb n M F) (hs : Stay F w w') (hm : MeshAt w' mb n' M' (Fx F w w')) : MB w0 w' mb n' M' (Fx F w w') := by
 refine ⟨hm,fun i hi => ?_,⟨hs.os.trans h.keep.os,hs.tape.trans h.keep.tape,hs.output.trans h.keep.output,Nat.le_trans h.keep.size hs.size,fun i hi => ?_⟩⟩
 ·rcases hi with hi | hi
  ·exact h.new i hi
  ·exact Nat.le_trans h.keep.size hi.1
 ·rw [hs.block i (Nat.lt_of_lt_of_le hi h.keep.size) (fun e => by have := h.new i e; omega)]
  exact h.keep.block i hi
theorem new_mb (l : List Pt) (ad : Option Addr) (cap : Nat) (h64 : ∀ p,p ∈ l → pt64 p) (hk : allCode l = 0) (hl : l.length ≤ 1048576) (w0 w : World) (hb : Below w0.heap.size w0 w) (hc : PCells w ad l) :
  Calls Tryz.prog 33 #[.slice ad l.length cap] w fun r w' => ∃ mb F,r = .returned (.tuple #[.pointer (some ⟨mb,0,none⟩),.int .i64 0]) ∧ MB w0 w' mb 0 (emptyM l) F ∧ Below w.heap.size w w' ∧ ∀ i,F i → w.heap.size ≤ i := by
 refine (new_ok l ad cap h64 hk hl w hc).mono ?_
 rintro r w' ⟨mb,rfl,hm,hb'⟩
 exact ⟨mb,_,rfl,⟨hm,fun i hi => Nat.le_trans hb.size hi.1,hb.trans (hb'.mono hb.size)⟩,hb', fun i hi => hi.1⟩
theorem make_mb {w0 w : World} {mb n : Nat} {M : MeshM} {F : Nat → Prop} (h : MB w0 w mb n M F) (h64 : ∀ p,p ∈ M.P → pt64 p) (hl : M.P.length ≤ 1048576) (hn : n ≤ 1000000000) (a b c : Int) :
  Calls Tryz.prog 34 #[.pointer (some ⟨mb,0,none⟩),.int .i64 a,.int .i64 b,.int .i64 c] w fun r w' =>
   r = .returned (.int .i64 (makeCode M a b c)) ∧ MB w0 w' mb (n + 3) (makeR M a b c) (Fx F w w') ∧ Stay F w w' := by
 refine (make_walk h.at_ h64 hl hn a b c).mono ?_
 rintro r w' ⟨rfl,hm,hs⟩
 exact ⟨rfl,h.stay hs hm,hs⟩
theorem kill_mb {w0 w : World} {mb n : Nat} {M : MeshM} {F : Nat → Prop} (h : MB w0 w mb n M F) (hn : n ≤ 1000000000) {a b c : Int} (ha : i64ok a) (hb : i64ok b) (hc : i64ok c) :
  Calls Tryz.prog 35 #[.pointer (some ⟨mb,0,none⟩),.int .i64 a,.int .i64 b,.int .i64 c] w fun r w' =>
   r = .returned (.int .i64 (killCode M a b c)) ∧ MB w0 w' mb (n + 3) (killR M a b c) (Fx F w w') ∧ Stay F w w' := by
 refine (kill_walk h.at_ hn ha hb hc).mono ?_
 rintro r w' ⟨rfl,hm,hs⟩
 exact ⟨rfl,h.stay hs hm,hs⟩
def KCells {α : Type} (enc : α → List Value) (w : World) (ad : Option Addr) (l : List α) : Prop :=
 0 < l.length → ∃ g,ad = some ⟨g,0,none⟩ ∧ g < w.heap.size ∧ ∀ j u,(cellsK enc l)[j]? = some u → w.cell? ⟨g,j,none⟩ = some u
theorem owns_kcells {α : Type} {enc : α → List Value} {k base e : Nat} {w : World} {v : Value} {l : List α} (h : w.ownsRow base e k v l.length (cellsK enc l)) :
  ∃ ad cap,v = .slice ad l.length cap ∧ KCells enc w ad l ∧ ∀ g,ad = some g → base ≤ g.block ∧ g.block < w.heap.size := by
 rcases h.2 with ⟨h1,h2⟩ | ⟨g,cap,cur,rfl,hb,hh,hn,hm,hs,ht⟩
 ·exact ⟨none,0,by rw [h2]; exact h1,fun hl => absurd h2 (by omega),fun g hg => by cases hg⟩
 ·refine ⟨_,cap,rfl,fun _ => ⟨g,rfl,(h.lt g rfl).2,fun j u hu => ?_⟩,fun a ha => by cases ha; exact h.lt g rfl⟩
  have hl := h.1
  have hj : j < l.length * k := by
   rw [← hl]; exact (List.getElem?_eq_some_iff.1 hu).1
  rw [h.cellAt j hj]; exact hu
theorem tris_mb {w0 w : World} {mb n : Nat} {M : MeshM} {F : Nat → Prop} (h : MB w0 w mb n M F) (hs : Sound M) (hl : M.P.length ≤ 1048576) :
  Calls Tryz.prog 11 #[.pointer (some ⟨mb,0,none⟩)] w fun r w' => ∃ ad cap,r = .returned (.slice ad (trisL M.ap M.P.length).length cap) ∧ KCells encT w' ad (trisL M.ap M.P.length) ∧ (∀ g,ad = some g → w.heap.size < g.block ∧ g.block < w'.heap.size) ∧ MB w0 w' mb n M F ∧ Below w.heap.size w w' := by
 refine (tris_walk h.at_ hs.win hl).mono ?_
 rintro r w' ⟨v,rfl,ho,hb⟩
 obtain ⟨ad,cap,rfl,hc,hg⟩ := owns_kcells ho
 exact ⟨ad,cap,rfl,hc,fun g e => by have := hg g e; omega,h.below hb,hb⟩
theorem Sound.i64 {M : MeshM} (h : Sound M) (hl : M.P.length ≤ 1048576) {a b c : Int} (e : M.ap a b = some c) : i64ok a ∧ i64ok b ∧ i64ok c := by
 have := h.within3 e
 unfold i64ok; omega
theorem KCells.below {α : Type} {enc : α → List Value} {w w' : World} {ad : Option Addr} {l : List α} (h : KCells enc w ad l) (hb : Below w.heap.size w w') : KCells enc w' ad l := by
 intro hl
 obtain ⟨g,rfl,hg,hc⟩ := h hl
 exact ⟨g,rfl,Nat.lt_of_lt_of_le hg hb.size,fun j u hu => (hb.cell (p := ⟨g,j,none⟩) hg).trans (hc j u hu)⟩
open Tvf
def TCells (w : World) (ad : Option Addr) (l : List Tri3) : Prop :=
 0 < l.length → ∃ b off,ad = some ⟨b,off,none⟩ ∧ b < w.heap.size ∧ ∀ i,i < l.length →
  w.cell? ⟨b,off + i * 3,none⟩ = some (.int .i64 (l.getD i (0,0,0)).1) ∧ w.cell? ⟨b,off + i * 3 + 1,none⟩ = some (.int .i64 (l.getD i (0,0,0)).2.1) ∧ w.cell? ⟨b,off + i * 3 + 2,none⟩ = some (.int .i64 (l.getD i (0,0,0)).2.2)
theorem TCells.below {w w' : World} {ad : Option Addr} {l : List Tri3} (h : TCells w ad l) (hb : Below w.heap.size w w') : TCells w' ad l := by
 intro hl
 obtain ⟨b,off,rfl,hbb,hc⟩ := h hl
 exact ⟨b,off,rfl,Nat.lt_of_lt_of_le hbb hb.size,fun i hi => ⟨(hb.cell (p := ⟨b,off + i * 3,none⟩) hbb).trans (hc i hi).1,(hb.cell (p := ⟨b,off + i * 3 + 1,none⟩) hbb).trans (hc i hi).2.1,(hb.cell (p := ⟨b,off + i * 3 + 2,none⟩) hbb).trans (hc i hi).2.2⟩⟩
theorem take_snocT (l : List Tri3) (n : Nat) (h : n < l.length) : l.take (n + 1) = l.take n ++ [l.getD n (0,0,0)] := by
 rw [List.take_add_one,List.getElem?_eq_getElem h,List.getD_eq_getElem?_getD,List.getElem?_eq_getElem h]; rfl
end Go.Proofs.YtbagikgpgdlkcaaGreatDoor
