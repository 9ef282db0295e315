/- Part of the proof. No conditions. -/
import Derived.Test.YtbagikgpgdlkcaaGreatDoorZb
set_option linter.all false
set_option maxHeartbeats 8000000
set_option maxRecDepth 100000
namespace Go.Proofs.YtbagikgpgdlkcaaGreatDoor
open Go.RowKit Tvf Go.Maps Go.WideMaps
structure TR (w wr : World) (v : Value) (L : List Tri3) : Prop where
 own : wr.ownsRow w.heap.size 61 3 v L.length (cellsK encT L)
 low : Below w.heap.size w wr
theorem TR.nil {w wr : World} (h : Below w.heap.size w wr) : TR w wr (.slice none 0 0) [] := ⟨World.ownsRow_nil _ _ _ _,h⟩
theorem TR.grow {w wr wa w2 : World} {v v' : Value} {L L' : List Tri3} {n : Nat} (h : TR w wr v L) (ha : Below wr.heap.size wr wa) (hg : wa.grownBy w2 v.ownBlock) (hn : n = L'.length) (ho : w2.ownsRow w.heap.size 61 3 v' n (cellsK encT L')) : TR w w2 v' L' := by
 subst hn
 have hb : Below w.heap.size w wa := h.low.trans (ha.mono h.low.size)
 exact ⟨ho,hb.grown hg hb.size (fun k hk => (h.own.lt k hk).1)⟩
theorem TR.form {w wr : World} {v : Value} {L : List Tri3} (h : TR w wr v L) : ∃ g c,v = .slice g L.length c := by
 rcases h.own.2 with ⟨h0,h1⟩ | ⟨g,c,cur,h0,_⟩
 ·exact ⟨none,0,by rw [h1]; exact h0⟩
 ·exact ⟨_,_,h0⟩
theorem TR.below {w wr w' : World} {v : Value} {L : List Tri3} (h : TR w wr v L) (hb : Below wr.heap.size wr w') : TR w w' v L :=
 ⟨ownsRow_same h.own (fun g hg => hb.block g (h.own.lt g hg).2),h.low.trans (hb.mono h.low.size)⟩
theorem tri_news {w : World} {B g cap : Nat} {L : List Tri3} (h : w.ownsRow B 61 3 (.slice (some ⟨g,0,none⟩) L.length cap) L.length (cellsK encT L)) {k : Nat} (hk : k ≤ L.length) :
  (∀ j u,(cellsK encT (L.take k))[j]? = some u → w.cell? ⟨g,j,none⟩ = some u) ∧ (∀ j u,(cellsK encT (L.drop k))[j]? = some u → w.cell? ⟨g,k * 3 + j,none⟩ = some u) := by
 have hlen : ∀ x : Tri3,(encT x).length = 3 := fun _ => rfl
 have e : cellsK encT L = cellsK encT (L.take k) ++ cellsK encT (L.drop k) := by rw [← cellsK_append,List.take_append_drop]
 have l1 : (cellsK encT (L.take k)).length = k * 3 := by rw [cellsK_len hlen,List.length_take,Nat.min_eq_left hk]
 have l2 : (cellsK encT L).length = L.length * 3 := cellsK_len hlen L
 constructor
 ·intro j u hj
  have hlt := (List.getElem?_eq_some_iff.1 hj).1
  rw [h.cellAt j (by rw [l1] at hlt; omega),e,List.getElem?_append_left hlt]
  exact hj
 ·intro j u hj
  have hlt := (List.getElem?_eq_some_iff.1 hj).1
  rw [cellsK_len hlen,List.length_drop] at hlt
  rw [h.cellAt (k * 3 + j) (by omega),e,List.getElem?_append_right (by omega),l1,Nat.add_sub_cancel_left]
  exact hj
def TCell (w : World) (ad : Option Addr) (T : List Tri3) : Prop := ∀ i,i < T.length → ∃ b off,ad = some ⟨b,off,none⟩ ∧ b < w.heap.size ∧ w.cell? ⟨b,off + i * 3,none⟩ = some (.int .i64 (T.getD i (0,0,0)).1) ∧ w.cell? ⟨b,off + i * 3 + 1,none⟩ = some (.int .i64 (T.getD i (0,0,0)).2.1) ∧ w.cell? ⟨b,off + i * 3 + 2,none⟩ = some (.int .i64 (T.getD i (0,0,0)).2.2)
theorem sorted15 {w : World} {ad : Option Addr} {cap : Nat} {T : List Tri3} (hc : TCell w ad T) (hne : ∀ t,t ∈ T → t.1 ≠ t.2.1 ∧ t.2.1 ≠ t.2.2 ∧ t.1 ≠ t.2.2) (hnd : (T.map own3).Nodup) (hT : T.length ≤ 1000000) :
  Calls Tryz.prog 22 #[.slice ad T.length cap] w fun r w' => ∃ v L,r = .returned v ∧ Hid (TR w w' v L) ∧ Hid (Srt T T.length L) := by
 obtain ⟨i0,hi,hz0', hz1', hz2'⟩ := info_parts infoTri
 have HC : Hid (∀ i W,i < T.length → Below w.heap.size w W → ∃ b off,ad = some ⟨b,off,none⟩ ∧ W.cell? ⟨b,off + i * 3,none⟩ = some (.int .i64 (T.getD i (0,0,0)).1) ∧ W.cell? ⟨b,off + i * 3 + 1,none⟩ = some (.int .i64 (T.getD i (0,0,0)).2.1) ∧ W.cell? ⟨b,off + i * 3 + 2,none⟩ = some (.int .i64 (T.getD i (0,0,0)).2.2)) := fun i W hi hb => by
  obtain ⟨b,off,e,_,h0,h1,h2⟩ := hc i hi
  exact ⟨b,off,e,cell_keep h0 hb,cell_keep h1 hb,cell_keep h2 hb⟩
 have HOW : Hid (∀ i W,i < T.length → Calls Tryz.prog 55 #[tv3 (T.getD i (0,0,0))] W fun r w' => r = .returned (tv3 (own3 (T.getD i (0,0,0)))) ∧ Below W.heap.size W w') := fun i W hi => own15 (hne _ (getD_mem3 hi)) W
 have HLS : Hid (∀ x y W,Calls Tryz.prog 56 #[tv3 x,tv3 y] W fun r w' => r = .returned (.bool (ltTb x y)) ∧ Below W.heap.size W w') := fun x y W => less15 x y W
 have HND := Lib.hid hnd
 have HTL := Lib.hid hT
 clear hc hne hnd hT
 unfold tv3 at *
 go_enter Tryz.func22,Tryz.ntmps22
 go_wp2
 go_loopw [3,4] (fun s3 s4 wr => ∃ (i : Nat) (L : List Tri3),i ≤ T.length ∧ s4 = .int .i64 i ∧ Hid (TR w wr s3 L) ∧ Hid (Srt T i L)) (fun _ s4 _ => T.length - (intOf s4).toNat)
 case atStart => exact ⟨0,[],Nat.zero_le _,rfl,TR.nil (Below.refl _ _),Srt.nil T⟩
 case round =>
  obtain ⟨i,L,hiT,rfl,HR,HSR⟩ := hrel
  obtain ⟨gl,cl,hv⟩ := HR.out.form
  subst hv
  by_cases hlt : i < T.length
  ·have HLL : Hid (L.length = i) := HSR.out.2.2
   obtain ⟨bb,off,rfl,x0,x1,x2⟩ := HC.out i _ hlt HR.out.low
   have HO1 := Lib.hid (fun W => HOW.out i W hlt)
   have HST := Lib.hid (fun k => Srt.step (k := k) HSR.out hlt HND.out)
   generalize T.getD i (0,0,0) = t0 at *
   generalize own3 t0 = t at *
   obtain ⟨t1,t2,t3⟩ := t
   have hz : (i : Int) < (T.length : Int) := by omega
   have hi0 : (0 : Int) ≤ (i : Int) := by omega
   have hw1 : wrap64 ((i : Int) + 1) = (i : Int) + 1 := by have := HTL.out; unfold wrap64; omega
   dsimp only at HO1
   go_upto_block 2 with (go_at_call 55; (with_reducible refine (HO1.out _).mono ?_); rintro r w1 ⟨rfl,hb1⟩; have HB1 := Lib.hid hb1)
   obtain ⟨W1,hW1⟩ : ∃ W1 : World,W1 = w1.alloc (.cells #[.int .i64 t1,.int .i64 t2,.int .i64 t3] 61) := ⟨_,rfl⟩
   rw [← hW1]
   have HRW : Hid (TR w W1 (.slice gl L.length cl) L) := by rw [hW1]; exact (HR.out.below HB1.out).below ((Below.refl _ _).alloc (Nat.le_refl _) _)
   have HTB : Hid (C3 W1 w1.heap.size (.int .i64 t1) (.int .i64 t2) (.int .i64 t3)) := by rw [hW1]; exact C3.new _ _ _ _ _
   clear hW1 HR HB1 HO1
   have HOC : Hid (∀ j W,j < L.length → Below W1.heap.size W1 W → ∃ g,gl = some ⟨g,0,none⟩ ∧ W.cell? ⟨g,j * 3,none⟩ = some (.int .i64 (L.getD j (0,0,0)).1) ∧ W.cell? ⟨g,j * 3 + 1,none⟩ = some (.int .i64 (L.getD j (0,0,0)).2.1) ∧ W.cell? ⟨g,j * 3 + 2,none⟩ = some (.int .i64 (L.getD j (0,0,0)).2.2)) := fun j W hj hb => by
    have ho := (HRW.out.below hb).own
    rcases ho.2 with ⟨_,h0⟩ | ⟨g,cp', cur,e,_⟩
    ·omega
    ·cases e
     obtain ⟨y0,y1,y2⟩ := tri_cells ho hj
     exact ⟨g,rfl,y0,y1,y2⟩
   have HLC : Hid (∀ j W,Calls Tryz.prog 56 #[.agg #[.int .i64 t1,.int .i64 t2,.int .i64 t3],.agg #[.int .i64 (L.getD j (0,0,0)).1,.int .i64 (L.getD j (0,0,0)).2.1,.int .i64 (L.getD j (0,0,0)).2.2]] W fun r w' => r = .returned (.bool (ltTb (t1,t2,t3) (L.getD j (0,0,0)))) ∧ Below W.heap.size W w') := fun j W => HLS.out (t1,t2,t3) (L.getD j (0,0,0)) W
   go_cut [6] from 14 to 47 (fun s6 wx => ∃ k : Nat,s6 = .int .i64 k ∧ Hid (InsT L (t1,t2,t3) k) ∧ Hid (Below W1.heap.size W1 wx))
   case first =>
    go_wp2_with fail
    go_loopw [6] (fun s6 wr => ∃ k : Nat,k ≤ L.length ∧ s6 = .int .i64 k ∧ Hid (∀ j,k ≤ j → j < L.length → ltT (t1,t2,t3) (L.getD j (0,0,0))) ∧ Hid (Below W1.heap.size W1 wr)) (fun s6 _ => (intOf s6).toNat)
    case atStart => exact ⟨L.length,Nat.le_refl _,rfl,fun j h1 h2 => absurd h2 (by omega),Below.refl _ _⟩
    case round =>
     obtain ⟨k,hk,rfl,HK,HBR⟩ := hrel
     cases k with
     | zero =>
      have hz0 : ¬(0 : Int) < ((0 : Nat) : Int) := by omega
      go_upto_region 7 with fail
      go_quiet (fail)
      go_wp2
      go_meet
      exact ⟨0,rfl,⟨Nat.zero_le _,fun j _ hj => HK.out j (Nat.zero_le _) hj,fun e => absurd e (by omega)⟩,below_q15 HBR.out nq⟩
     | succ j =>
      obtain ⟨g,rfl,y0,y1,y2⟩ := HOC.out j _ (by omega) HBR.out.drew
      obtain ⟨b0,b1,b2⟩ := HTB.out.below HBR.out.drew
      have HL1 := Lib.hid (HLC.out j)
      have HKJ : Hid (ltT (t1,t2,t3) (L.getD j (0,0,0)) → ∀ j', j ≤ j' → j' < L.length → ltT (t1,t2,t3) (L.getD j' (0,0,0))) := fun h0 j' h1 h2 => by
       rcases Nat.eq_or_lt_of_le h1 with rfl | q
       ·exact h0
       ·exact HK.out j' (by omega) h2
      have HIF := ltTb_iff (t1,t2,t3) (L.getD j (0,0,0))
      generalize hlb : ltTb (t1,t2,t3) (L.getD j (0,0,0)) = lb at HL1 HIF
      have HIF2 := Lib.hid HIF
      have HLB := Lib.hid hlb
      clear HIF hlb
      generalize (L.getD j (0,0,0)).1 = z1 at *
      generalize (L.getD j (0,0,0)).2.1 = z2 at *
      generalize (L.getD j (0,0,0)).2.2 = z3 at *
      have hp0 : (0 : Int) < ((j + 1 : Nat) : Int) := by omega
      have hq3 : IntKind.i64.wrap (j : Int) = (j : Int) := IntWalk.i64_in _ (by have := HLL.out; have := HTL.out; omega)
      have hq4 : wrap64 (j : Int) = (j : Int) := by have := HLL.out; have := HTL.out; unfold wrap64; omega
      have hj0 : (0 : Int) ≤ (j : Int) := by omega
      have hjl : (j : Int) < (L.length : Int) := by omega
      have n0 : wr.drew.cell? ⟨w1.heap.size,0,none⟩ = some (.int .i64 t1) ∧ wr.drew.cell? ⟨w1.heap.size,1,none⟩ = some (.int .i64 t2) ∧ wr.drew.cell? ⟨w1.heap.size,2,none⟩ = some (.int .i64 t3) ∧ wr.drew.cell? ⟨g,j * 3,none⟩ = some (.int .i64 z1) ∧ wr.drew.cell? ⟨g,j * 3 + 1,none⟩ = some (.int .i64 z2) ∧ wr.drew.cell? ⟨g,j * 3 + 2,none⟩ = some (.int .i64 z3) := ⟨b0,b1,b2,y0,y1,y2⟩
      have HL2 : Hid (Calls Tryz.prog 56 #[.agg #[.int .i64 t1,.int .i64 t2,.int .i64 t3],.agg #[.int .i64 z1,.int .i64 z2,.int .i64 z3]] wr.drew fun r w' => r = .returned (.bool lb) ∧ Hid (Below W1.heap.size W1 w') ∧ (w'.cell? ⟨w1.heap.size,0,none⟩ = some (.int .i64 t1) ∧ w'.cell? ⟨w1.heap.size,1,none⟩ = some (.int .i64 t2) ∧ w'.cell? ⟨w1.heap.size,2,none⟩ = some (.int .i64 t3) ∧ w'.cell? ⟨g,j * 3,none⟩ = some (.int .i64 z1) ∧ w'.cell? ⟨g,j * 3 + 1,none⟩ = some (.int .i64 z2) ∧ w'.cell? ⟨g,j * 3 + 2,none⟩ = some (.int .i64 z3))) := by
       refine (HL1.out _).mono ?_
       rintro r w' ⟨rfl,hb⟩
       exact ⟨rfl,HBR.out.drew.trans (hb.mono HBR.out.drew.size),cell_keep n0.1 hb,cell_keep n0.2.1 hb,cell_keep n0.2.2.1 hb,cell_keep n0.2.2.2.1 hb,cell_keep n0.2.2.2.2.1 hb,cell_keep n0.2.2.2.2.2 hb⟩
      clear b0 b1 b2 y0 y1 y2 HL1 HLC HOC
      cases lb
      ·go_upto_region 7 with fail
       go_region_held3 (fun W => W.cell? ⟨w1.heap.size,0,none⟩ = some (.int .i64 t1) ∧ W.cell? ⟨w1.heap.size,1,none⟩ = some (.int .i64 t2) ∧ W.cell? ⟨w1.heap.size,2,none⟩ = some (.int .i64 t3) ∧ W.cell? ⟨g,j * 3,none⟩ = some (.int .i64 z1) ∧ W.cell? ⟨g,j * 3 + 1,none⟩ = some (.int .i64 z2) ∧ W.cell? ⟨g,j * 3 + 2,none⟩ = some (.int .i64 z3)) (first | with_reducible exact n0 | with_reducible exact n1)
        (first | (go_at_call 56; (with_reducible refine HL2.out.mono ?_); rintro r w9 ⟨rfl,HB9,n1⟩))
       all_goals
        go_wp2
        go_meet
       exact ⟨j + 1,rfl,⟨hk,HK.out,fun _ hl => by have := HIF2.out.2 hl; cases this⟩,HB9.out⟩
      ·go_upto_region 7 with fail
       go_region_held3 (fun W => W.cell? ⟨w1.heap.size,0,none⟩ = some (.int .i64 t1) ∧ W.cell? ⟨w1.heap.size,1,none⟩ = some (.int .i64 t2) ∧ W.cell? ⟨w1.heap.size,2,none⟩ = some (.int .i64 t3) ∧ W.cell? ⟨g,j * 3,none⟩ = some (.int .i64 z1) ∧ W.cell? ⟨g,j * 3 + 1,none⟩ = some (.int .i64 z2) ∧ W.cell? ⟨g,j * 3 + 2,none⟩ = some (.int .i64 z3)) (first | with_reducible exact n0 | with_reducible exact n1)
        (first | (go_at_call 56; (with_reducible refine HL2.out.mono ?_); rintro r w9 ⟨rfl,HB9,n1⟩))
       all_goals
        go_wp2
        go_roundw
       case rel => exact ⟨j,by omega,by rfl,HKJ.out (by have := HIF2.out; simpa using this),HB9.out⟩
       case measure => (try rw [hq4]); simp only [intOf]; omega
   case rest =>
    obtain ⟨k,rfl,HI,HBW⟩ := hcut
    have HRC := Lib.hid (HRW.out.below HBW.out)
    have HS0 : Hid (TR w wc (.slice none 0 0) []) := TR.nil HRC.out.low
    have HNX : Hid (∀ A D,A = L.take k → D = L.drop k → Srt T (i + 1) (A ++ [(t1,t2,t3)] ++ D)) := fun A D hA hD => by rw [hA,hD]; exact HST.out k HI.out
    have hk := HI.out.1
    have hkz : (k : Int) ≤ (L.length : Int) := by omega
    have hk0 : (0 : Int) ≤ (k : Int) := by omega
    have hlen3 : ∀ x : Tri3,(encT x).length = 3 := fun _ => rfl
    have HBX := Lib.hid (HTB.out.below HBW.out)
    clear HOC HLC HST HRW HLS HOW HC
    cases gl with
    | none =>
     have ho := HRC.out.own
     have hL0 : L.length = 0 ∧ cl = 0 := by
      rcases ho.2 with ⟨e,h0⟩ | ⟨_,_,_,e,_⟩
      ·injection e with e1 e2 e3; exact ⟨h0,e3⟩
      ·cases e
     obtain ⟨hL0,rfl⟩ := hL0
     have hL1 : L = [] := List.length_eq_zero_iff.1 hL0
     subst hL1
     have hk1 : k = 0 := by simpa using hk
     subst hk1
     have HNX2 : Hid (Srt T (i + 1) [(t1,t2,t3)]) := HNX.out [] [] rfl rfl
     obtain ⟨s0,s1,s2⟩ := HBX.out
     clear ho hkz hk0 hL0 hk HRC HI
     try simp only [List.length_nil]
     go_wp2_with (first
      |(at_builtin; refine wpList_append_zero rfl _ _ 23 rfl 61 i0 Tryz.underlying23 hi _ _ _ rfl (Nat.le_refl _) _ _ rfl ?_)
      |(at_builtin; refine wpList_append_lies _ rfl _ _ 23 rfl w.heap.size 61 i0 (.agg #[.int .i64 0,.int .i64 0,.int .i64 0]) 3 24 Tryz.underlying23 hi hz0' hz1' hz2' rfl (by decide) _ 0 [] rfl (World.ownsRow_nil _ _ _ _) ⟨wc.heap.size,0,none⟩ 1 1 (encT (t1,t2,t3)) rfl ?qc1 ?qc2 ?qc3 (by decide) ?qc4 ?qc5 ?qc6 (wc.heap.size + 1) (by simp) ?_))
     case qc1 => rfl
     case qc2 => first | exact cells_new wc (encT (t1,t2,t3)) 61 | exact fun _ _ h => h
     case qc3 => exact encT_one _
     case qc4 => decide
     case qc5 => decide
     case qc6 => have := HS0.out.low.size; simp; omega
     intro g6 c6 w3 ho2 hg2 hat2 hlt2
     have HS2 : Hid (TR w w3 (.slice (some ⟨g6,0,none⟩) (0 + 1) c6) [(t1,t2,t3)]) := HS0.out.grow (n := 0 + 1) ((Below.refl _ _).alloc (Nat.le_refl _) _) hg2 rfl ho2
     have hc6 : 0 + 1 ≤ c6 := by
      rcases HS2.out.own.2 with ⟨e,_⟩ | ⟨_,_,_,e,_,_,h,_⟩
      ·cases e
      ·injection e with e1 e2 e3
       rw [e3]; exact h
     clear ho2 hg2 hat2 hlt2 s0 s1 s2
     go_wp2_with (at_builtin; refine wpList_append_zero rfl _ _ 23 rfl 61 i0 Tryz.underlying23 hi _ _ _ rfl hc6 _ _ rfl ?_)
     go_roundw
     case rel => exact ⟨i + 1,_,by omega,by (try rw [hw1]); rfl,HS2.out,HNX2.out⟩
     case measure => (try rw [hw1]); simp only [intOf]; omega
    | some g0 =>
     have ho := HRC.out.own
     have hcap : L.length ≤ cl := by
      rcases ho.2 with ⟨e,_⟩ | ⟨_,_,_,e,_,_,h,_⟩
      ·cases e
      ·cases e; exact h
     obtain ⟨b0,rfl⟩ : ∃ b0,g0 = ⟨b0,0,none⟩ := by
      rcases ho.2 with ⟨e,_⟩ | ⟨g,_,_,e,_⟩
      ·cases e
      ·cases e; exact ⟨g,rfl⟩
     have hcz : (L.length : Int) ≤ (cl : Int) := by omega
     have hkc : (k : Int) ≤ (cl : Int) := by omega
     obtain ⟨A,hA⟩ : ∃ A,A = L.take k := ⟨_,rfl⟩
     obtain ⟨D,hD⟩ : ∃ D,D = L.drop k := ⟨_,rfl⟩
     have hAl : A.length = k := by rw [hA,List.length_take,Nat.min_eq_left hk]
     have hDl : D.length = L.length - k := by rw [hD,List.length_drop]
     have HSN : Hid (∀ W,Below wc.heap.size wc W → (∀ j x,(cellsK encT A)[j]? = some x → W.cell? ⟨b0,j,none⟩ = some x) ∧ (∀ j x,(cellsK encT D)[j]? = some x → W.cell? ⟨b0,k * 3 + j,none⟩ = some x)) := fun W hb => by rw [hA,hD]; exact tri_news (HRC.out.below hb).own hk
     have HNX2 := Lib.hid (HNX.out A D hA hD)
     have HAL := Lib.hid hAl
     have HDL := Lib.hid hDl
     have HKL : Hid (k ≤ 1000000 ∧ L.length ≤ 1000000 ∧ k ≤ L.length) := by have := HLL.out; have := HTL.out; unfold Hid; omega
     clear hA hD hAl hDl HNX ho
     go_wp2_with (at_builtin; refine wpList_append_own_at _ rfl _ _ 23 rfl w.heap.size 61 i0 (.agg #[.int .i64 0,.int .i64 0,.int .i64 0]) 3 24 Tryz.underlying23 hi hz0' hz1' hz2' rfl (by decide) _ 0 [] rfl (World.ownsRow_nil _ _ _ _) ⟨b0,0,none⟩ k cl (cellsK encT A) rfl ?qc1 ?qc2 ?qc3 ?qc4 ?qc5 ?qc6 ?_)
     case qc1 => rw [cellsK_len hlen3,HAL.out]
     case qc2 => intro j x hj; rw [Addr.add_lit]; simpa using (HSN.out _ (Below.refl _ _)).1 j x hj
     case qc3 => intro x hx; obtain ⟨y,_,hy⟩ := List.mem_flatMap.1 hx; exact encT_one y x hy
     case qc4 => have := HKL.out; unfold maxLen; omega
     case qc5 => have := HKL.out; omega
     case qc6 => exact HS0.out.low.size
     intro v1 w2 ho1 hg1 hnil1 hat1
     have HB2 : Hid (Below wc.heap.size wc w2) := (Below.refl _ wc).grown hg1 (Nat.le_refl _) (fun i e => by simp [Value.ownBlock] at e)
     have HS1 : Hid (TR w w2 v1 A) := HS0.out.grow (n := 0 + k) (Below.refl _ _) hg1 (by rw [HAL.out]; omega) (by simpa using ho1)
     have HAT : Hid (∀ i,v1.ownBlock = some i → wc.heap.size ≤ i) := fun i e => by
      rcases hat1 with e2 | e2
      ·rw [e2] at e; simp [Value.ownBlock] at e
      ·rw [e2] at e; cases e; exact Nat.le_refl _
     obtain ⟨g5,c5,hv1⟩ := HS1.out.form
     rw [HAL.out] at hv1
     subst hv1
     clear ho1 hg1 hnil1 hat1
     obtain ⟨s0,s1,s2⟩ := HBX.out.below HB2.out
     go_wp2_with (at_builtin; refine wpList_append_lies _ rfl _ _ 23 rfl w.heap.size 61 i0 (.agg #[.int .i64 0,.int .i64 0,.int .i64 0]) 3 24 Tryz.underlying23 hi hz0' hz1' hz2' rfl (by decide) _ k (cellsK encT A) rfl ?qo ⟨w2.heap.size,0,none⟩ 1 1 (encT (t1,t2,t3)) rfl ?qc1 ?qc2 ?qc3 (by decide) ?qc4 ?qc5 ?qc6 (w2.heap.size + 1) (by simp) ?_)
     case qo => have := HS1.out.own; rw [HAL.out] at this; exact this.alloc _
     case qc1 => rfl
     case qc2 => first | exact cells_new w2 (encT (t1,t2,t3)) 61 | exact fun _ _ h => h
     case qc3 => exact encT_one _
     case qc4 => have := HKL.out; unfold maxLen; omega
     case qc5 => have := HKL.out; omega
     case qc6 => have := HS1.out.low.size; simp; omega
     intro g6 c6 w3 ho2 hg2 hat2 hlt2
     have HB3 : Hid (Below wc.heap.size wc w3) := HB2.out.trans (((Below.refl _ w2).alloc (Nat.le_refl _) _ |>.mono HB2.out.size).grown hg2 (by have := HB2.out.size; simp; omega) (fun i e => HAT.out i e))
     have HS2 : Hid (TR w w3 (.slice (some ⟨g6,0,none⟩) (k + 1) c6) (A ++ [(t1,t2,t3)])) := HS1.out.grow (n := k + 1) ((Below.refl _ _).alloc (Nat.le_refl _) _) hg2 (by simp [HAL.out]) (by rw [cellsK_append,cellsK_one]; exact ho2)
     clear ho2 hg2 hat2 hlt2 s0 s1 s2
     by_cases hck : cl = k
     ·have e1 : L.length = cl := by omega
      subst hck
      subst e1
      have hD0 : D = [] := List.length_eq_zero_iff.1 (by rw [HDL.out]; omega)
      have HD0 : Hid (A ++ [(t1,t2,t3)] ++ D = A ++ [(t1,t2,t3)]) := by unfold Hid; rw [hD0,List.append_nil]
      clear hD0
      have hc6 : L.length + 1 ≤ c6 := by
       rcases HS2.out.own.2 with ⟨e,_⟩ | ⟨_,_,_,e,_,_,h,_⟩
       ·cases e
       ·injection e with e1 e2 e3
        rw [e3]
        have e4 : (A ++ [(t1,t2,t3)]).length = L.length + 1 := by rw [List.length_append,HAL.out]; rfl
        omega
      go_wp2_with (at_builtin; refine wpList_append_zero rfl _ _ 23 rfl 61 i0 Tryz.underlying23 hi _ _ _ rfl hc6 _ _ rfl ?_)
      go_roundw
      case rel => exact ⟨i + 1,_,by omega,by (try rw [hw1]); rfl,HS2.out,by rw [← HD0.out]; exact HNX2.out⟩
      case measure => (try rw [hw1]); simp only [intOf]; omega
     ·have hckz : ¬(cl : Int) = (k : Int) := by omega
      go_wp2_with (at_builtin; refine wpList_append_own_at _ rfl _ _ 23 rfl w.heap.size 61 i0 (.agg #[.int .i64 0,.int .i64 0,.int .i64 0]) 3 24 Tryz.underlying23 hi hz0' hz1' hz2' rfl (by decide) _ (k + 1) (cellsK encT (A ++ [(t1,t2,t3)])) rfl ?qo ⟨b0,k * 3,none⟩ (L.length - k) (cl - k) (cellsK encT D) rfl ?qc1 ?qc2 ?qc3 ?qc4 ?qc5 ?qc6 ?_)
      case qo => have := HS2.out.own; rw [List.length_append,HAL.out] at this; exact this
      case qc1 => rw [cellsK_len hlen3,HDL.out]
      case qc2 => intro j x hj; rw [Addr.add_lit]; exact (HSN.out _ HB3.out).2 j x hj
      case qc3 => intro x hx; obtain ⟨y,_,hy⟩ := List.mem_flatMap.1 hx; exact encT_one y x hy
      case qc4 => have := HKL.out; unfold maxLen; omega
      case qc5 => have := HKL.out; omega
      case qc6 => exact HS2.out.low.size
      intro v3 w4 ho3 hg3 hnil3 hat3
      have HS3 : Hid (TR w w4 v3 (A ++ [(t1,t2,t3)] ++ D)) := HS2.out.grow (n := k + 1 + (L.length - k)) (Below.refl _ _) hg3 (by simp [HAL.out,HDL.out]; omega) (by rw [cellsK_append]; exact ho3)
      generalize A ++ [(t1,t2,t3)] ++ D = NL at HS3 HNX2
      obtain ⟨g7,c7,hv3⟩ := HS3.out.form
      subst hv3
      clear ho3 hg3 hnil3 hat3
      go_wp2
      go_roundw
      case rel => exact ⟨i + 1,NL,by omega,by (try rw [hw1]); rfl,HS3.out,HNX2.out⟩
      case measure => (try rw [hw1]); simp only [intOf]; omega
  ·have e : i = T.length := by omega
   subst e
   have hz : ¬(T.length : Int) < (T.length : Int) := by omega
   go_wp2
   go_ret
   first | exact ⟨_,rfl,L,HR,HSR⟩ | exact ⟨_,L,rfl,HR,HSR⟩
end Go.Proofs.YtbagikgpgdlkcaaGreatDoor
