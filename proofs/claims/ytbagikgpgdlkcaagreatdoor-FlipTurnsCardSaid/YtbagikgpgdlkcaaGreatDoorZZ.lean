/- Part of the proof. No conditions. -/
import Derived.Test.YtbagikgpgdlkcaaGreatDoorZY
import Derived.Deep.CutBlock
set_option linter.all false
set_option maxHeartbeats 8000000
set_option maxRecDepth 100000
namespace Go.Proofs.YtbagikgpgdlkcaaGreatDoor
open Go.RowKit Tvf Go.Maps Go.WideMaps
theorem minI_min (a b : Int) : minI a b = min a b := by unfold minI; rw [Int.min_def]
theorem maxI_max (a b : Int) : maxI a b = max a b := by unfold maxI; rw [Int.max_def]
def keepS (u t : Int) (s : Seg3) : Bool := !(decide (s.1 = u) && decide (s.2.1 = t))
def looseL (S : List Seg3) (u t : Int) : List Seg3 := S.filter (keepS u t)
theorem seg_cells {w : World} {B : Nat} {g cap : Nat} {T : List Seg3} (h : w.ownsRow B 90 3 (.slice (some ⟨g,0,none⟩) T.length cap) T.length (cellsK encS T)) {i : Nat} (hi : i < T.length) :
  w.cell? ⟨g,i * 3,none⟩ = some (.int .i64 (T.getD i (0,0,0)).1) ∧ w.cell? ⟨g,i * 3 + 1,none⟩ = some (.int .i64 (T.getD i (0,0,0)).2.1) ∧ w.cell? ⟨g,i * 3 + 2,none⟩ = some (.int .i64 (T.getD i (0,0,0)).2.2) := by
 have e : T.getD i (0,0,0) = T[i] := by rw [List.getD_eq_getElem?_getD,List.getElem?_eq_getElem hi]; rfl
 have hk : ∀ x : Seg3,(encS x).length = 3 := fun _ => rfl
 rw [e,h.cellAt (i * 3) (by omega),h.cellAt (i * 3 + 1) (by omega),h.cellAt (i * 3 + 2) (by omega)]
 have h0 := cellsK_at hk T i hi 0 (by omega)
 rw [Nat.add_zero] at h0
 exact ⟨h0,cellsK_at hk T i hi 1 (by omega),cellsK_at hk T i hi 2 (by omega)⟩
structure SR (w wr : World) (v : Value) (L : List Seg3) : Prop where
 own : wr.ownsRow w.heap.size 90 3 v L.length (cellsK encS L)
 low : Below w.heap.size w wr
theorem SR.nil (w : World) : SR w w (.slice none 0 0) [] := ⟨World.ownsRow_nil _ _ _ _,Below.refl _ _⟩
theorem SR.grow {w wr wa w2 : World} {v v' : Value} {L L' : List Seg3} {n : Nat} (h : SR w wr v L) (ha : Below wr.heap.size wr wa) (hg : wa.grownBy w2 v.ownBlock) (hn : n = L'.length) (ho : w2.ownsRow w.heap.size 90 3 v' n (cellsK encS L')) : SR w w2 v' L' := by
 subst hn
 have hb : Below w.heap.size w wa := h.low.trans (ha.mono h.low.size)
 exact ⟨ho,hb.grown hg hb.size (fun k hk => (h.own.lt k hk).1)⟩
theorem SR.form {w wr : World} {v : Value} {L : List Seg3} (h : SR w wr v L) : ∃ g c,v = .slice g L.length c := by
 rcases h.own.2 with ⟨h0,h1⟩ | ⟨g,c,cur,h0,_⟩
 ·exact ⟨none,0,by rw [h1]; exact h0⟩
 ·exact ⟨_,_,h0⟩
theorem loose_take {S : List Seg3} {u t : Int} {i : Nat} (hi : i < S.length) : looseL (S.take (i + 1)) u t = looseL (S.take i) u t ++ (if keepS u t (S.getD i (0,0,0)) = true then [S.getD i (0,0,0)] else []) := by
 unfold looseL
 rw [List.take_add_one,List.filter_append,List.getElem?_eq_getElem hi,List.getD_eq_getElem?_getD,List.getElem?_eq_getElem hi]
 simp only [Option.toList_some,Option.getD_some,List.filter_cons,List.filter_nil]
theorem loose15 {w : World} {B xb : Nat} {P : List Pt} {ad : Option Addr} {cap : Nat} {T : List Tri3} {vT : Value} {S : List Seg3} {vS : Value} (h : RMs w B xb P ad cap T vT S vS) (hS : S.length ≤ 1000000) (a b : Int) :
  Calls Tryz.prog 42 #[.pointer (some ⟨xb,0,none⟩),.int .i64 a,.int .i64 b] w fun r w' => (∃ q,r = .returned (.bool q)) ∧ ∃ vS', RMs w' B xb P ad cap T vT (looseL S (minI a b) (maxI a b)) vS' ∧ Stay (fun i => i = xb) w w' ∧ (∀ i,vS'.ownBlock = some i → w.heap.size ≤ i) := by
 obtain ⟨i0,hi,hz0', hz1', hz2'⟩ := info_parts infoSeg
 have HM := Lib.hid h
 have HSL := Lib.hid hS
 obtain ⟨g,cp,n,hv,hn⟩ : ∃ g cp n,vS = .slice g n cp ∧ n = S.length := by
  rcases h.seg.2 with ⟨rfl,h0⟩ | ⟨g,cp,cur,rfl,_⟩
  ·exact ⟨none,0,0,rfl,h0.symm⟩
  ·exact ⟨_,_,_,rfl,rfl⟩
 subst hv
 have HG : Hid (∀ i W,i < n → Below w.heap.size w W → ∃ b,g = some ⟨b,0,none⟩ ∧ W.cell? ⟨b,i * 3,none⟩ = some (.int .i64 (S.getD i (0,0,0)).1) ∧ W.cell? ⟨b,i * 3 + 1,none⟩ = some (.int .i64 (S.getD i (0,0,0)).2.1) ∧ W.cell? ⟨b,i * 3 + 2,none⟩ = some (.int .i64 (S.getD i (0,0,0)).2.2)) := fun i W hi hb => by
  have ho := h.seg
  rcases ho.2 with ⟨_,h0⟩ | ⟨b,cp', cur,e,_⟩
  ·omega
  ·cases e
   obtain ⟨x0,x1,x2⟩ := seg_cells ho (i := i) (by omega)
   exact ⟨b,rfl,cell_keep x0 hb,cell_keep x1 hb,cell_keep x2 hb⟩
 have HX : Hid (∀ W,Below w.heap.size w W → W.cell? ⟨xb,2,none⟩ = some (.slice g n cp)) := fun W hb => cell_keep h.cells.2.2 hb
 have HN := Lib.hid hn
 have c2 := HX.out w (Below.refl _ _)
 clear h hS hn
 rw [minI_min,maxI_max]
 generalize hu : min a b = u
 generalize ht : max a b = t
 go_enter Tryz.func42,Tryz.ntmps42
 go_wp2
 go_loopw [7,8] (fun s7 s8 wr => ∃ i : Nat,i ≤ n ∧ s8 = .int .i64 i ∧ Hid (SR w wr s7 (looseL (S.take i) u t))) (fun _ s8 _ => n - (intOf s8).toNat)
 case atStart => exact ⟨0,Nat.zero_le _,rfl,SR.nil w⟩
 case round =>
  clear c2
  obtain ⟨i,hin,rfl,HR⟩ := hrel
  have c2 := HX.out _ HR.out.low
  obtain ⟨gl,cl,hv⟩ := HR.out.form
  subst hv
  by_cases hlt : i < n
  ·obtain ⟨bb,rfl,x0,x1,x2⟩ := HG.out i _ hlt HR.out.low
   have hz : (i : Int) < (n : Int) := by omega
   have hi0 : (0 : Int) ≤ (i : Int) := by omega
   have hw1 : wrap64 ((i : Int) + 1) = (i : Int) + 1 := by have := HSL.out; have := HN.out; unfold wrap64; omega
   have HTK := Lib.hid (loose_take (S := S) (u := u) (t := t) (i := i) (by have := HN.out; omega))
   have HKD : Hid (keepS u t (S.getD i (0,0,0)) = !(decide ((S.getD i (0,0,0)).1 = u) && decide ((S.getD i (0,0,0)).2.1 = t))) := rfl
   have HLEN : Hid ((looseL (S.take i) u t).length ≤ 1000000) := by
    unfold Hid looseL
    exact Nat.le_trans (List.length_filter_le _ _) (by rw [List.length_take]; have := HSL.out; omega)
   generalize S.getD i (0,0,0) = sg at *
   obtain ⟨s0,s1,s2⟩ := sg
   dsimp only at x0 x1 x2 HKD
   generalize looseL (S.take i) u t = L at *
   have HPU : Hid (∀ g' c' w2,keepS u t (s0,s1,s2) = true → w2.ownsRow w.heap.size 90 3 (.slice (some ⟨g', 0,none⟩) (L.length + 1) c') (L.length + 1) (cellsK encS L ++ encS (s0,s1,s2)) → (World.alloc wr (.cells #[.int .i64 s0,.int .i64 s1,.int .i64 s2] 90)).grownBy w2 (Value.slice gl L.length cl).ownBlock → SR w w2 (.slice (some ⟨g', 0,none⟩) (L.length + 1) c') (looseL (S.take (i + 1)) u t)) := fun g' c' w2 hk ho hg => by
    have e : looseL (S.take (i + 1)) u t = L ++ [(s0,s1,s2)] := by have := HTK.out; rw [if_pos hk] at this; exact this
    rw [e]
    exact HR.out.grow (n := L.length + 1) ((Below.refl _ _).alloc (Nat.le_refl _) _) hg (by simp) (by rw [cellsK_append,cellsK_one]; exact ho)
   by_cases e1 : s0 = u
   ·by_cases e2 : s1 = t
    ·have HL2 : Hid (looseL (S.take (i + 1)) u t = L) := by unfold Hid; rw [HTK.out,HKD.out,decide_eq_true e1,decide_eq_true e2]; simp
     clear HPU
     go_wp2
     go_roundw
     case rel => exact ⟨i + 1,by omega,by (try rw [hw1]); rfl,by rw [HL2.out]; exact HR.out⟩
     case measure => (try rw [hw1]); simp only [intOf]; omega
    ·have HKP : Hid (keepS u t (s0,s1,s2) = true) := by unfold Hid; rw [HKD.out,decide_eq_false e2]; simp
     subst e1
     go_wp2_with (at_builtin; refine wpList_append_lies _ rfl _ _ 24 rfl w.heap.size 90 i0 (.agg #[.int .i64 0,.int .i64 0,.int .i64 0]) 3 24 Tryz.underlying24 hi hz0' hz1' hz2' rfl (by decide) _ L.length (cellsK encS L) rfl (HR.out.own.alloc _) ⟨wr.heap.size,0,none⟩ 1 1 (encS (s0,s1,s2)) rfl ?qc1 ?qc2 ?qc3 (by decide) ?qc4 ?qc5 ?qc6 (wr.heap.size + 1) (by simp) ?_)
     case qc1 => rfl
     case qc2 => first | exact cells_new wr (encS (s0,s1,s2)) 90 | exact fun _ _ h => h
     case qc3 => exact encS_one _
     case qc4 => have := HLEN.out; unfold maxLen; omega
     case qc5 => have := HLEN.out; omega
     case qc6 => have := HR.out.low.size; simp; omega
     intro g' c' w2 hown hgrow hat hlt2
     have HP2 := Lib.hid (HPU.out g' c' w2 HKP.out hown hgrow)
     clear hown hgrow hat hlt2 HPU
     go_wp2
     go_roundw
     case rel => exact ⟨i + 1,by omega,by (try rw [hw1]); rfl,HP2.out⟩
     case measure => (try rw [hw1]); simp only [intOf]; omega
   ·have HKP : Hid (keepS u t (s0,s1,s2) = true) := by unfold Hid; rw [HKD.out,decide_eq_false e1]; simp
    go_wp2_with (at_builtin; refine wpList_append_lies _ rfl _ _ 24 rfl w.heap.size 90 i0 (.agg #[.int .i64 0,.int .i64 0,.int .i64 0]) 3 24 Tryz.underlying24 hi hz0' hz1' hz2' rfl (by decide) _ L.length (cellsK encS L) rfl (HR.out.own.alloc _) ⟨wr.heap.size,0,none⟩ 1 1 (encS (s0,s1,s2)) rfl ?qc1 ?qc2 ?qc3 (by decide) ?qc4 ?qc5 ?qc6 (wr.heap.size + 1) (by simp) ?_)
    case qc1 => rfl
    case qc2 => first | exact cells_new wr (encS (s0,s1,s2)) 90 | exact fun _ _ h => h
    case qc3 => exact encS_one _
    case qc4 => have := HLEN.out; unfold maxLen; omega
    case qc5 => have := HLEN.out; omega
    case qc6 => have := HR.out.low.size; simp; omega
    intro g' c' w2 hown hgrow hat hlt2
    have HP2 := Lib.hid (HPU.out g' c' w2 HKP.out hown hgrow)
    clear hown hgrow hat hlt2 HPU
    go_wp2
    go_roundw
    case rel => exact ⟨i + 1,by omega,by (try rw [hw1]); rfl,HP2.out⟩
    case measure => (try rw [hw1]); simp only [intOf]; omega
  ·have e : i = n := by omega
   subst e
   have hz : ¬(i : Int) < (i : Int) := by omega
   have HNS := Lib.hid (HM.out.newS HR.out.low HR.out.own)
   have HB2 := Lib.hid (HM.out.box.below HR.out.low)
   have f2 := HB2.out.fz 2
   have HE : Hid (looseL (S.take i) u t = looseL S u t) := by unfold Hid; rw [HN.out,List.take_length]
   go_wp2
   go_ret
   obtain ⟨h1,h2⟩ := HNS.out
   rw [HE.out] at h1 h2 ⊢
   refine ⟨?_,_,h1,h2,fun j e => ?_⟩
   ·cases decide ((looseL S u t).length < i) <;> simp
   ·have hl := HR.out.own.lt j (by rw [HE.out]; exact e)
    exact hl.1
def ltS (u t : Int) (s : Seg3) : Bool := decide (s.1 < u) || (decide (s.1 = u) && decide (s.2.1 < t))
def PutS (L : List Seg3) (u t v : Int) (L' : List Seg3) : Prop := ∃ k,k ≤ L.length ∧ L' = L.take k ++ [(u,t,v)] ++ L.drop k ∧ (∀ j,j < k → ltS u t (L.getD j (0,0,0)) = true) ∧ (k < L.length → ltS u t (L.getD k (0,0,0)) = false)
theorem PutS.len {L L' : List Seg3} {u t v : Int} (h : PutS L u t v L') : L'.length = L.length + 1 := by
 obtain ⟨k,hk,rfl,_⟩ := h
 simp only [List.length_append,List.length_take,List.length_drop,List.length_cons,List.length_nil]
 omega
theorem fix15_no {w : World} {B xb : Nat} {P : List Pt} {ad : Option Addr} {cap : Nat} {T : List Tri3} {vT : Value} {S : List Seg3} {vS : Value} (h : RMs w B xb P ad cap T vT S vS) (a b v : Int) (hx : hasP P a = false ∨ (hasP P a = true ∧ hasP P b = false)) :
  Calls Tryz.prog 40 #[.pointer (some ⟨xb,0,none⟩),.int .i64 a,.int .i64 b,.int .i64 v] w fun r w' => r = .returned (.int .i64 11) ∧ w' = w := by
 have HA := Lib.hid (has15 h a)
 have HB := Lib.hid (has15 h b)
 clear h
 rcases hx with hx | ⟨hx,hy⟩
 ·rw [hx] at HA
  go_enter Tryz.func40,Tryz.ntmps40
  go_wp2_with (first
   |(go_at_call 63; (with_reducible refine HA.out.mono ?_); rintro r w1 ⟨rfl,hw1⟩; obtain rfl := hw1.symm)
   |(go_at_call 63; (with_reducible refine HB.out.mono ?_); rintro r w1 ⟨rfl,hw1⟩; obtain rfl := hw1.symm))
  go_ret
  exact ⟨rfl,rfl⟩
 ·rw [hx] at HA
  rw [hy] at HB
  go_enter Tryz.func40,Tryz.ntmps40
  go_wp2_with (first
   |(go_at_call 63; (with_reducible refine HA.out.mono ?_); rintro r w1 ⟨rfl,hw1⟩; obtain rfl := hw1.symm)
   |(go_at_call 63; (with_reducible refine HB.out.mono ?_); rintro r w1 ⟨rfl,hw1⟩; obtain rfl := hw1.symm))
  go_ret
  exact ⟨rfl,rfl⟩
theorem fix15_same {w : World} {B xb : Nat} {P : List Pt} {ad : Option Addr} {cap : Nat} {T : List Tri3} {vT : Value} {S : List Seg3} {vS : Value} (h : RMs w B xb P ad cap T vT S vS) (a v : Int) (hx : hasP P a = true) :
  Calls Tryz.prog 40 #[.pointer (some ⟨xb,0,none⟩),.int .i64 a,.int .i64 a,.int .i64 v] w fun r w' => r = .returned (.int .i64 1) ∧ w' = w := by
 have HA := Lib.hid (has15 h a)
 rw [hx] at HA
 clear h hx
 go_enter Tryz.func40,Tryz.ntmps40
 go_wp2_with (go_at_call 63; (with_reducible refine HA.out.mono ?_); rintro r w1 ⟨rfl,hw1⟩; obtain rfl := hw1.symm)
 go_ret
 exact ⟨rfl,rfl⟩
theorem seg_news {w : World} {B g cap : Nat} {L : List Seg3} (h : w.ownsRow B 90 3 (.slice (some ⟨g,0,none⟩) L.length cap) L.length (cellsK encS L)) {k : Nat} (hk : k ≤ L.length) :
  (∀ j u,(cellsK encS (L.take k))[j]? = some u → w.cell? ⟨g,j,none⟩ = some u) ∧ (∀ j u,(cellsK encS (L.drop k))[j]? = some u → w.cell? ⟨g,k * 3 + j,none⟩ = some u) := by
 have hlen : ∀ x : Seg3,(encS x).length = 3 := fun _ => rfl
 have e : cellsK encS L = cellsK encS (L.take k) ++ cellsK encS (L.drop k) := by rw [← cellsK_append,List.take_append_drop]
 have l1 : (cellsK encS (L.take k)).length = k * 3 := by rw [cellsK_len hlen,List.length_take,Nat.min_eq_left hk]
 have l2 : (cellsK encS L).length = L.length * 3 := cellsK_len hlen L
 constructor
 ·intro j u hj
  have hlt := (List.getElem?_eq_some_iff.1 hj).1
  rw [h.cellAt j (by rw [l1] at hlt; omega),e,List.getElem?_append_left hlt]
  exact hj
 ·intro j u hj
  have hlt := (List.getElem?_eq_some_iff.1 hj).1
  rw [cellsK_len hlen,List.length_drop] at hlt
  rw [h.cellAt (k * 3 + j) (by omega),e,List.getElem?_append_right (by omega),l1,Nat.add_sub_cancel_left]
  exact hj
theorem below_q15 {B : Nat} {a w : World} (h : Below B a w) (n : Nat) : Below B a (w.drewN n) := ⟨h.os,h.tape,h.output,h.size,h.block⟩
theorem fix15_main {w : World} {B xb : Nat} {P : List Pt} {ad : Option Addr} {cap : Nat} {T : List Tri3} {vT : Value} {S : List Seg3} {vS : Value} (h : RMs w B xb P ad cap T vT S vS) (hS : S.length ≤ 1000000) (a b v : Int) (hx : hasP P a = true) (hy : hasP P b = true) (hab : ¬a = b) :
  Calls Tryz.prog 40 #[.pointer (some ⟨xb,0,none⟩),.int .i64 a,.int .i64 b,.int .i64 v] w fun r w' => r = .returned (.int .i64 0) ∧ ∃ S' vS', PutS (looseL S (minI a b) (maxI a b)) (minI a b) (maxI a b) v S' ∧ RMs w' B xb P ad cap T vT S' vS' ∧ Stay (fun i => i = xb) w w' ∧ (∀ i,vS'.ownBlock = some i → w.heap.size ≤ i) := by
 obtain ⟨i0,hi,hz0', hz1', hz2'⟩ := info_parts infoSeg
 have HA := Lib.hid (has15 h a)
 have HB := Lib.hid (has15 h b)
 have HLO : Hid (Calls Tryz.prog 42 #[.pointer (some ⟨xb,0,none⟩),.int .i64 a,.int .i64 b] w fun r w' => (∃ q,r = .returned (.bool q)) ∧ ∃ g1 c1,Hid (RMs w' B xb P ad cap T vT (looseL S (minI a b) (maxI a b)) (.slice g1 (looseL S (minI a b) (maxI a b)).length c1) ∧ Stay (fun i => i = xb) w w' ∧ (∀ i,(Value.slice g1 (looseL S (minI a b) (maxI a b)).length c1).ownBlock = some i → w.heap.size ≤ i))) := by
  refine (loose15 h hS a b).mono ?_
  rintro r w' ⟨hq,vS', h1,h2,h3⟩
  obtain ⟨g1,c1,rfl⟩ : ∃ g1 c1,vS' = .slice g1 (looseL S (minI a b) (maxI a b)).length c1 := by
   rcases h1.seg.2 with ⟨h0,e⟩ | ⟨g,c,cur,h0,_⟩
   ·exact ⟨none,0,by rw [e]; exact h0⟩
   ·exact ⟨_,_,h0⟩
  exact ⟨hq,g1,c1,h1,h2,h3⟩
 have HLEN : Hid ((looseL S (minI a b) (maxI a b)).length ≤ 1000000) := Nat.le_trans (List.length_filter_le _ _) hS
 rw [hx] at HA
 rw [hy] at HB
 clear h hS hx hy
 rw [minI_min,maxI_max] at *
 generalize hu : min a b = u at *
 generalize ht : max a b = t at *
 generalize looseL S u t = L at *
 go_enter Tryz.func40,Tryz.ntmps40
 go_upto_block 0 with (first
  |(go_at_call 63; (with_reducible refine HA.out.mono ?_); rintro r w1 ⟨rfl,hw1⟩; obtain rfl := hw1.symm)
  |(go_at_call 63; (with_reducible refine HB.out.mono ?_); rintro r w1 ⟨rfl,hw1⟩; obtain rfl := hw1.symm)
  |(go_at_call 42; (with_reducible refine HLO.out.mono ?_); rintro r w1 ⟨⟨q,rfl⟩,g1,c1,HM1⟩))
 clear HA HB HLO
 obtain ⟨W1,hW1⟩ : ∃ W1 : World,W1 = w1.alloc (.cells #[.int .i64 u,.int .i64 t,.int .i64 v] 90) := ⟨_,rfl⟩
 rw [← hW1]
 have HB1 : Hid (Below w1.heap.size w1 W1) := by rw [hW1]; exact (Below.refl _ _).alloc (Nat.le_refl _) _
 have HSB : Hid (C3 W1 w1.heap.size (.int .i64 u) (.int .i64 t) (.int .i64 v)) := by rw [hW1]; exact C3.new _ _ _ _ _
 clear hW1
 have HM2 := Lib.hid (HM1.out.1.below HB1.out)
 have HC : Hid (∀ W,Below W1.heap.size W1 W → W.cell? ⟨xb,2,none⟩ = some (.slice g1 L.length c1) ∧ W.cell? ⟨w1.heap.size,0,none⟩ = some (.int .i64 u) ∧ W.cell? ⟨w1.heap.size,1,none⟩ = some (.int .i64 t)) := fun W hb => ⟨cell_keep HM2.out.cells.2.2 hb,cell_keep HSB.out.1 hb,cell_keep HSB.out.2.1 hb⟩
 have HG : Hid (∀ i W,i < L.length → Below W1.heap.size W1 W → ∃ b,g1 = some ⟨b,0,none⟩ ∧ W.cell? ⟨b,i * 3,none⟩ = some (.int .i64 (L.getD i (0,0,0)).1) ∧ W.cell? ⟨b,i * 3 + 1,none⟩ = some (.int .i64 (L.getD i (0,0,0)).2.1)) := fun i W hi hb => by
  have ho := HM2.out.seg
  rcases ho.2 with ⟨_,h0⟩ | ⟨b,cp', cur,e,_⟩
  ·omega
  ·cases e
   obtain ⟨x0,x1,x2⟩ := seg_cells ho (i := i) (by omega)
   exact ⟨b,rfl,cell_keep x0 hb,cell_keep x1 hb⟩
 go_cut [10] from 12 to 107 (fun s10 wx => ∃ k : Nat,k ≤ L.length ∧ s10 = .int .i64 k ∧ Hid (∀ j,j < k → ltS u t (L.getD j (0,0,0)) = true) ∧ Hid (k < L.length → ltS u t (L.getD k (0,0,0)) = false) ∧ Hid (Below W1.heap.size W1 wx))
 case first =>
  go_wp2_with fail
  go_loopw [10] (fun s10 wr => ∃ k : Nat,k ≤ L.length ∧ s10 = .int .i64 k ∧ Hid (∀ j,j < k → ltS u t (L.getD j (0,0,0)) = true) ∧ Hid (Below W1.heap.size W1 wr)) (fun s10 _ => L.length - (intOf s10).toNat)
  case atStart => exact ⟨0,Nat.zero_le _,rfl,fun j hj => absurd hj (by omega),Below.refl _ _⟩
  case round =>
   obtain ⟨k,hk,rfl,HK,HBR⟩ := hrel
   obtain ⟨c2,cu,ct⟩ := HC.out _ HBR.out
   by_cases hlt : k < L.length
   ·obtain ⟨bb,rfl,x0,x1⟩ := HG.out k _ hlt HBR.out
    have hz : (k : Int) < (L.length : Int) := by omega
    have hk0 : (0 : Int) ≤ (k : Int) := by omega
    have hw1 : wrap64 ((k : Int) + 1) = (k : Int) + 1 := by have := HLEN.out; unfold wrap64; omega
    have HLT : Hid (ltS u t (L.getD k (0,0,0)) = (decide ((L.getD k (0,0,0)).1 < u) || (decide ((L.getD k (0,0,0)).1 = u) && decide ((L.getD k (0,0,0)).2.1 < t)))) := rfl
    have HNX : Hid (ltS u t (L.getD k (0,0,0)) = true → ∀ j,j < k + 1 → ltS u t (L.getD j (0,0,0)) = true) := fun h0 j hj => by
     rcases Nat.lt_or_ge j k with q | q
     ·exact HK.out j q
     ·rw [show j = k by omega]; exact h0
    generalize hlk : ltS u t (L.getD k (0,0,0)) = lk at HLT HNX
    generalize (L.getD k (0,0,0)).1 = s0 at *
    generalize (L.getD k (0,0,0)).2.1 = s1 at *
    by_cases e1 : s0 < u
    ·have hlt1 : lk = true := by rw [HLT.out,decide_eq_true e1]; rfl
     go_upto_region 8 with fail
     go_quiet (fail)
     go_wp2
     go_roundw
     case rel => exact ⟨k + 1,by omega,by (try rw [hw1]); rfl,HNX.out hlt1,below_q15 HBR.out nq⟩
     case measure => (try rw [hw1]); simp only [intOf]; omega
    ·by_cases e2 : s0 = u
     ·by_cases e3 : s1 < t
      ·have hlt1 : lk = true := by rw [HLT.out,decide_eq_true e2,decide_eq_true e3,Bool.and_true,Bool.or_true]
       subst e2
       go_upto_region 8 with fail
       go_quiet (fail)
       go_wp2
       go_roundw
       case rel => exact ⟨k + 1,by omega,by (try rw [hw1]); rfl,HNX.out hlt1,below_q15 HBR.out nq⟩
       case measure => (try rw [hw1]); simp only [intOf]; omega
      ·have hlt1 : lk = false := by rw [HLT.out,decide_eq_false e1,decide_eq_false e3,Bool.and_false,Bool.or_false]
       subst e2
       go_upto_region 8 with fail
       go_quiet (fail)
       go_wp2
       go_meet
       exact ⟨k,by omega,rfl,HK.out,fun _ => hlk.trans hlt1,below_q15 HBR.out nq⟩
     ·have hlt1 : lk = false := by rw [HLT.out,decide_eq_false e1,decide_eq_false e2,Bool.false_and,Bool.or_false]
      go_upto_region 8 with fail
      go_quiet (fail)
      go_wp2
      go_meet
      exact ⟨k,by omega,rfl,HK.out,fun _ => hlk.trans hlt1,below_q15 HBR.out nq⟩
   ·have hz : ¬(k : Int) < (L.length : Int) := by omega
    go_upto_region 8 with fail
    go_quiet (fail)
    go_wp2
    go_meet
    exact ⟨k,by omega,rfl,HK.out,fun e => absurd e hlt,below_q15 HBR.out nq⟩
 case rest =>
  obtain ⟨k,hk,rfl,HK,HKN,HBW⟩ := hcut
  have HS0 : Hid (SR w1 wc (.slice none 0 0) []) := ⟨World.ownsRow_nil _ _ _ _,HB1.out.trans (HBW.out.mono HB1.out.size)⟩
  have HMC := Lib.hid (HM1.out.1.below HS0.out.low)
  obtain ⟨c0,c1', c2⟩ := HMC.out.cells
  have hkz : (k : Int) ≤ (L.length : Int) := by omega
  have hk0 : (0 : Int) ≤ (k : Int) := by omega
  have HPS : Hid (∀ A D,A = L.take k → D = L.drop k → PutS L u t v (A ++ [(u,t,v)] ++ D)) := fun A D hA hD => ⟨k,hk,by rw [hA,hD],HK.out,HKN.out⟩
  have hlen3 : ∀ x : Seg3,(encS x).length = 3 := fun _ => rfl
  cases g1 with
  | none =>
   have ho := HMC.out.seg
   have hL0 : L.length = 0 ∧ c1 = 0 := by
    rcases ho.2 with ⟨e,h0⟩ | ⟨_,_,_,e,_⟩
    ·injection e with e1 e2 e3; exact ⟨h0,e3⟩
    ·cases e
   obtain ⟨hL0,rfl⟩ := hL0
   have hL1 : L = [] := List.length_eq_zero_iff.1 hL0
   subst hL1
   have hk1 : k = 0 := by simpa using hk
   subst hk1
   have HPS2 : Hid (PutS [] u t v [(u,t,v)]) := HPS.out [] [] rfl rfl
   obtain ⟨s0,s1,s2⟩ := HSB.out.below HBW.out
   rw [List.length_nil] at c2
   clear ho HG HC hkz hk0 hL0 hk
   go_wp2_with (first
    |(at_builtin; refine wpList_append_zero rfl _ _ 24 rfl 90 i0 Tryz.underlying24 hi _ _ _ rfl (Nat.le_refl _) _ _ rfl ?_)
    |(at_builtin; refine wpList_append_lies _ rfl _ _ 24 rfl w1.heap.size 90 i0 (.agg #[.int .i64 0,.int .i64 0,.int .i64 0]) 3 24 Tryz.underlying24 hi hz0' hz1' hz2' rfl (by decide) _ 0 [] rfl (World.ownsRow_nil _ _ _ _) ⟨wc.heap.size,0,none⟩ 1 1 (encS (u,t,v)) rfl ?qc1 ?qc2 ?qc3 (by decide) ?qc4 ?qc5 ?qc6 (wc.heap.size + 1) (by simp) ?_))
   case qc1 => rfl
   case qc2 => first | exact cells_new wc (encS (u,t,v)) 90 | exact fun _ _ h => h
   case qc3 => exact encS_one _
   case qc4 => decide
   case qc5 => decide
   case qc6 => have := HS0.out.low.size; simp; omega
   intro g6 c6 w3 ho2 hg2 hat2 hlt2
   have HS2 : Hid (SR w1 w3 (.slice (some ⟨g6,0,none⟩) (0 + 1) c6) [(u,t,v)]) := HS0.out.grow (n := 0 + 1) ((Below.refl _ _).alloc (Nat.le_refl _) _) hg2 rfl ho2
   have hc6 : 0 + 1 ≤ c6 := by
    rcases HS2.out.own.2 with ⟨e,_⟩ | ⟨_,_,_,e,_,_,h,_⟩
    ·cases e
    ·injection e with e1 e2 e3
     rw [e3]; exact h
   clear ho2 hg2 hat2 hlt2 s0 s1 s2 c0 c1' c2
   obtain ⟨c0,c1', c2⟩ := (HM1.out.1.below HS2.out.low).cells
   have f2 := (HM1.out.1.below HS2.out.low).box.fz 2
   have HNS := Lib.hid (HM1.out.1.newS HS2.out.low HS2.out.own)
   rw [List.length_nil] at c2
   go_wp2_with (at_builtin; refine wpList_append_zero rfl _ _ 24 rfl 90 i0 Tryz.underlying24 hi _ _ _ rfl hc6 _ _ rfl ?_)
   go_ret
   obtain ⟨h1,h2⟩ := HNS.out
   refine ⟨rfl,_,_,HPS2.out,h1,HM1.out.2.1.trans (h2.mono (fun i e => .inl e)),fun i e => ?_⟩
   have hl := HS2.out.own.lt i e
   exact Nat.le_trans HM1.out.2.1.size hl.1
  | some g0 =>
   have ho := HMC.out.seg
   have hcap : L.length ≤ c1 := by
    rcases ho.2 with ⟨e,_⟩ | ⟨_,_,_,e,_,_,h,_⟩
    ·cases e
    ·cases e; exact h
   obtain ⟨b0,rfl⟩ : ∃ b0,g0 = ⟨b0,0,none⟩ := by
    rcases ho.2 with ⟨e,_⟩ | ⟨g,_,_,e,_⟩
    ·cases e
    ·cases e; exact ⟨g,rfl⟩
   have hcz : (L.length : Int) ≤ (c1 : Int) := by omega
   have hkc : (k : Int) ≤ (c1 : Int) := by omega
   obtain ⟨A,hA⟩ : ∃ A,A = L.take k := ⟨_,rfl⟩
   obtain ⟨D,hD⟩ : ∃ D,D = L.drop k := ⟨_,rfl⟩
   have hAl : A.length = k := by rw [hA,List.length_take,Nat.min_eq_left hk]
   have hDl : D.length = L.length - k := by rw [hD,List.length_drop]
   have HSN : Hid (∀ W,Below w1.heap.size w1 W → (∀ j x,(cellsK encS A)[j]? = some x → W.cell? ⟨b0,j,none⟩ = some x) ∧ (∀ j x,(cellsK encS D)[j]? = some x → W.cell? ⟨b0,k * 3 + j,none⟩ = some x)) := fun W hb => by rw [hA,hD]; exact seg_news (HM1.out.1.below hb).seg hk
   have HPS2 := Lib.hid (HPS.out A D hA hD)
   have HAL := Lib.hid hAl
   have HDL := Lib.hid hDl
   clear hA hD hAl hDl HPS ho
   go_wp2_with (at_builtin; refine wpList_append_own_at _ rfl _ _ 24 rfl w1.heap.size 90 i0 (.agg #[.int .i64 0,.int .i64 0,.int .i64 0]) 3 24 Tryz.underlying24 hi hz0' hz1' hz2' rfl (by decide) _ 0 [] rfl (World.ownsRow_nil _ _ _ _) ⟨b0,0,none⟩ k c1 (cellsK encS A) rfl ?qc1 ?qc2 ?qc3 ?qc4 ?qc5 ?qc6 ?_)
   case qc1 => rw [cellsK_len hlen3,HAL.out]
   case qc2 => intro j x hj; rw [Addr.add_lit]; simpa using (HSN.out _ HS0.out.low).1 j x hj
   case qc3 => intro x hx; obtain ⟨y,_,hy⟩ := List.mem_flatMap.1 hx; exact encS_one y x hy
   case qc4 => have := HLEN.out; unfold maxLen; omega
   case qc5 => have := HLEN.out; omega
   case qc6 => exact HS0.out.low.size
   intro v1 w2 ho1 hg1 hnil1 hat1
   have HB2 : Hid (Below wc.heap.size wc w2) := (Below.refl _ wc).grown hg1 (Nat.le_refl _) (fun i e => by simp [Value.ownBlock] at e)
   have HS1 : Hid (SR w1 w2 v1 A) := HS0.out.grow (n := 0 + k) (Below.refl _ _) hg1 (by rw [HAL.out]; omega) (by simpa using ho1)
   obtain ⟨g5,c5,hv1⟩ := HS1.out.form
   rw [HAL.out] at hv1
   subst hv1
   clear ho1 hg1 hnil1 hat1 c0 c1' c2
   obtain ⟨s0,s1,s2⟩ := (HSB.out.below HBW.out).below HB2.out
   go_wp2_with (at_builtin; refine wpList_append_lies _ rfl _ _ 24 rfl w1.heap.size 90 i0 (.agg #[.int .i64 0,.int .i64 0,.int .i64 0]) 3 24 Tryz.underlying24 hi hz0' hz1' hz2' rfl (by decide) _ k (cellsK encS A) rfl ?qo ⟨w2.heap.size,0,none⟩ 1 1 (encS (u,t,v)) rfl ?qc1 ?qc2 ?qc3 (by decide) ?qc4 ?qc5 ?qc6 (w2.heap.size + 1) (by simp) ?_)
   case qo => have := HS1.out.own; rw [HAL.out] at this; exact this.alloc _
   case qc1 => rfl
   case qc2 => first | exact cells_new w2 (encS (u,t,v)) 90 | exact fun _ _ h => h
   case qc3 => exact encS_one _
   case qc4 => have := HLEN.out; unfold maxLen; omega
   case qc5 => have := HLEN.out; omega
   case qc6 => have := HS1.out.low.size; simp; omega
   intro g6 c6 w3 ho2 hg2 hat2 hlt2
   have HS2 : Hid (SR w1 w3 (.slice (some ⟨g6,0,none⟩) (k + 1) c6) (A ++ [(u,t,v)])) := HS1.out.grow (n := k + 1) ((Below.refl _ _).alloc (Nat.le_refl _) _) hg2 (by simp [HAL.out]) (by rw [cellsK_append,cellsK_one]; exact ho2)
   clear ho2 hg2 hat2 hlt2 s0 s1 s2
   obtain ⟨c0,c1', c2⟩ := (HM1.out.1.below HS2.out.low).cells
   by_cases hck : c1 = k
   ·have e1 : L.length = c1 := by omega
    subst hck
    subst e1
    have hD0 : D = [] := List.length_eq_zero_iff.1 (by rw [HDL.out]; omega)
    have HD0 : Hid (A ++ [(u,t,v)] ++ D = A ++ [(u,t,v)]) := by unfold Hid; rw [hD0,List.append_nil]
    clear hD0
    have hc6 : L.length + 1 ≤ c6 := by
     rcases HS2.out.own.2 with ⟨e,_⟩ | ⟨_,_,_,e,_,_,h,_⟩
     ·cases e
     ·injection e with e1 e2 e3
      rw [e3]
      have e4 : (A ++ [(u,t,v)]).length = L.length + 1 := by rw [List.length_append,HAL.out]; rfl
      omega
    have f2 := (HM1.out.1.below HS2.out.low).box.fz 2
    go_wp2_with (at_builtin; refine wpList_append_zero rfl _ _ 24 rfl 90 i0 Tryz.underlying24 hi _ _ _ rfl hc6 _ _ rfl ?_)
    have hl : (A ++ [(u,t,v)]).length = L.length + 1 := by rw [List.length_append,HAL.out]; rfl
    have HNS := Lib.hid (HM1.out.1.newS HS2.out.low (by rw [hl]; have := HS2.out.own; rw [hl] at this; exact this))
    go_ret
    obtain ⟨h1,h2⟩ := HNS.out
    refine ⟨rfl,_,_,HPS2.out,by rw [HD0.out]; exact h1,HM1.out.2.1.trans (h2.mono (fun i e => .inl e)),fun i e => ?_⟩
    have hl := HS2.out.own.lt i e
    exact Nat.le_trans HM1.out.2.1.size hl.1
   ·have hckz : ¬(c1 : Int) = (k : Int) := by omega
    go_wp2_with (at_builtin; refine wpList_append_own_at _ rfl _ _ 24 rfl w1.heap.size 90 i0 (.agg #[.int .i64 0,.int .i64 0,.int .i64 0]) 3 24 Tryz.underlying24 hi hz0' hz1' hz2' rfl (by decide) _ (k + 1) (cellsK encS (A ++ [(u,t,v)])) rfl ?qo ⟨b0,k * 3,none⟩ (L.length - k) (c1 - k) (cellsK encS D) rfl ?qc1 ?qc2 ?qc3 ?qc4 ?qc5 ?qc6 ?_)
    case qo => have := HS2.out.own; rw [List.length_append,HAL.out] at this; exact this
    case qc1 => rw [cellsK_len hlen3,HDL.out]
    case qc2 => intro j x hj; rw [Addr.add_lit]; exact (HSN.out _ HS2.out.low).2 j x hj
    case qc3 => intro x hx; obtain ⟨y,_,hy⟩ := List.mem_flatMap.1 hx; exact encS_one y x hy
    case qc4 => have := HLEN.out; unfold maxLen; omega
    case qc5 => have := HLEN.out; omega
    case qc6 => exact HS2.out.low.size
    intro v3 w4 ho3 hg3 hnil3 hat3
    have HS3 : Hid (SR w1 w4 v3 (A ++ [(u,t,v)] ++ D)) := HS2.out.grow (n := k + 1 + (L.length - k)) (Below.refl _ _) hg3 (by simp [HAL.out,HDL.out]; omega) (by rw [cellsK_append]; exact ho3)
    generalize A ++ [(u,t,v)] ++ D = NL at HS3 HPS2
    obtain ⟨g7,c7,hv3⟩ := HS3.out.form
    subst hv3
    clear ho3 hg3 hnil3 hat3 c0 c1' c2
    have HNS := Lib.hid (HM1.out.1.newS HS3.out.low HS3.out.own)
    obtain ⟨c0,c1', c2⟩ := (HM1.out.1.below HS3.out.low).cells
    have f2 := (HM1.out.1.below HS3.out.low).box.fz 2
    go_wp2
    go_ret
    obtain ⟨h1,h2⟩ := HNS.out
    refine ⟨rfl,_,_,HPS2.out,h1,HM1.out.2.1.trans (h2.mono (fun i e => .inl e)),fun i e => ?_⟩
    have hl := HS3.out.own.lt i e
    exact Nat.le_trans HM1.out.2.1.size hl.1
end Go.Proofs.YtbagikgpgdlkcaaGreatDoor
