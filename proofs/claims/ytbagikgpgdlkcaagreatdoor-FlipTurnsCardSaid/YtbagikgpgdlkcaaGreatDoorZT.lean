/- Part of the proof. No conditions. -/
import Derived.Test.YtbagikgpgdlkcaaGreatDoorZS
set_option linter.all false
set_option maxHeartbeats 8000000
set_option maxRecDepth 100000
namespace Go.Proofs.YtbagikgpgdlkcaaGreatDoor
open Go.RowKit Tvf Go.Maps Go.WideMaps
structure GoodS (D : MeshM → Int → Int → Bool) (s : SS) : Prop where
 ne : s.L ≠ []
 i1 : i64ok s.e.1
 i2 : i64ok s.e.2
 ll : s.L.length ≤ 1000000
 sl : s.S.length ≤ 1000000
 nn : s.n ≤ 1000000
 del : ∀ (w : World) (mb n : Nat) (F : Nat → Prop),MeshAt w mb n s.M F → Calls Tryz.prog 17 #[.pointer (some ⟨mb,0,none⟩),.int .i64 s.e.1,.int .i64 s.e.2] w fun r w' => r = .returned (.bool (D s.M s.e.1 s.e.2)) ∧ Below w.heap.size w w'
 may : shB s.M s.e.1 s.e.2 = true → D s.M s.e.1 s.e.2 = false → mayB s.M s.e.1 s.e.2 = true
theorem cell_stay {G : Nat → Prop} {W W' : World} {P i : Nat} {v : Value} (h : W.cell? ⟨P,i,none⟩ = some v) (hs : Stay G W W') (hP : ¬G P) : W'.cell? ⟨P,i,none⟩ = some v :=
 (World.cell?_of_block (hs.block P (World.block_lt_of_cell? _ _ h) hP)).trans h
theorem pair_al {W : World} {P : Nat} {x y : Value} (h : W.cell? ⟨P,0,none⟩ = some x ∧ W.cell? ⟨P,1,none⟩ = some y) (o : Obj) : (W.alloc o).cell? ⟨P,0,none⟩ = some x ∧ (W.alloc o).cell? ⟨P,1,none⟩ = some y := ⟨cell_al h.1 o,cell_al h.2 o⟩
def Fr (B : Nat) (G : Nat → Prop) (W W' : World) : Prop := Below B W W' ∧ ∀ i,G i → W'.heap[i]? = W.heap[i]?
theorem Fr.trans {B : Nat} {G : Nat → Prop} {a b c : World} (h : Fr B G a b) (k : Fr B G b c) : Fr B G a c := ⟨h.1.trans k.1,fun i hi => (k.2 i hi).trans (h.2 i hi)⟩
theorem Fr.of {B : Nat} {G : Nat → Prop} {a b : World} (h : Below a.heap.size a b) (hB : B ≤ a.heap.size) (hG : ∀ i,G i → i < a.heap.size) : Fr B G a b := ⟨h.mono hB,fun i hi => h.block i (hG i hi)⟩
theorem LV.fr {B : Nat} {w w' : World} {F : Nat → Prop} {g c : Nat} {v7 : Value} {A S : List (Int × Int)} (h : LV B w F g c v7 A S) (hb : Below w.heap.size w w') : Fr B F w w' := Fr.of hb h.base h.flt
theorem LV.frAl {B : Nat} {w : World} {F : Nat → Prop} {g c : Nat} {v7 : Value} {A S : List (Int × Int)} (h : LV B w F g c v7 A S) (o : Obj) : Fr B F w (w.alloc o) := h.fr ((Below.refl _ _).alloc (Nat.le_refl _) o)
theorem Stay.low {G : Nat → Prop} {a b c : World} (h : Stay G a b) (k : Below a.heap.size b c) : Stay G a c :=
 ⟨k.os.trans h.os,k.tape.trans h.tape,k.output.trans h.output,Nat.le_trans h.size k.size,fun i hi hG => (k.block i hi).trans (h.block i hi hG)⟩
theorem wrap_small1 {j : Nat} (h : j + 1 ≤ 1000001) : wrap64 ((j : Nat) : Int) = j := by unfold wrap64; omega
theorem wrap_up1 {m : Nat} (h : m ≤ 1000000) : wrap64 ((m : Int) + 1) = ((m + 1 : Nat) : Int) := by unfold wrap64; omega
theorem sRun_keep (D : MeshM → Int → Int → Bool) (s : SS) (hs : Sound s.M) : ∀ k,Sound (sRun D s k).M ∧ (sRun D s k).M.P = s.M.P
 | 0 => ⟨hs,rfl⟩
 | k + 1 => by
  obtain ⟨h1,h2⟩ := sRun_keep D s hs k
  show Sound (sStep D (sRun D s k)).M ∧ (sStep D (sRun D s k)).M.P = s.M.P
  unfold sStep
  split
  ·exact ⟨turnR_sound h1 _ _,(turnR_P _ _ _).trans h2⟩
  ·exact ⟨h1,h2⟩
theorem sStep_skip {D : MeshM → Int → Int → Bool} {s : SS} (h : (shB s.M s.e.1 s.e.2 && !D s.M s.e.1 s.e.2) = false) : sStep D s = ⟨s.M,s.L.take (s.L.length - 1),s.S,s.n⟩ := by unfold sStep; rw [h]; rfl
theorem sStep_flip {D : MeshM → Int → Int → Bool} {s : SS} (h : (shB s.M s.e.1 s.e.2 && !D s.M s.e.1 s.e.2) = true) : sStep D s = ⟨turnR s.M s.e.1 s.e.2,s.L.take (s.L.length - 1) ++ four s.M s.e.1 s.e.2,s.S ++ four s.M s.e.1 s.e.2,s.n + 1⟩ := by unfold sStep; rw [h]; rfl
theorem four_at (a b x y : Int) (i : Nat) (h : i < 4) : ∃ p q : Int,(∀ W,(Instr.index 130 (.agg #[.int .i64 a,.int .i64 y,.int .i64 y,.int .i64 b,.int .i64 b,.int .i64 x,.int .i64 x,.int .i64 a]) (.int .i64 (i : Int))).run Tryz.prog W = .ok (.agg #[.int .i64 p,.int .i64 q]) W) ∧
  [(a,y),(y,b),(b,x),(x,a)].take (i + 1) = [(a,y),(y,b),(b,x),(x,a)].take i ++ [(p,q)] := by
 match i,h with
 | 0,_ => exact ⟨a,y,fun _ => by kernel_rfl,rfl⟩
 | 1,_ => exact ⟨y,b,fun _ => by kernel_rfl,rfl⟩
 | 2,_ => exact ⟨b,x,fun _ => by kernel_rfl,rfl⟩
 | 3,_ => exact ⟨x,a,fun _ => by kernel_rfl,rfl⟩
theorem settle_walk {w0 w : World} {mb n : Nat} {M : MeshM} {F : Nat → Prop} (h : MB w0 w mb n M F) (h64 : ∀ p,p ∈ M.P → pt64 p) (hs : Sound M) (hl : M.P.length ≤ 1048576) (hn : n ≤ 10000000) {L : List (Int × Int)} {ad : Option Addr} {cap : Nat} (hL : L.length ≤ 1000000) (hcap : L.length ≤ cap) (hk : KCells encP w ad L) (hnil : ad = none → L.length = 0)
  (hoff : ∀ g,ad = some g → ¬F g.block ∧ g.block < w.heap.size) (D : MeshM → Int → Int → Bool) (K : Nat) (hgood : ∀ k,k < K → GoodS D (sRun D ⟨M,L,L,0⟩ k)) (hend : (sRun D ⟨M,L,L,0⟩ K).L = []) :
  Calls Tryz.prog 61 #[.pointer (some ⟨mb,0,none⟩),.slice ad L.length cap] w fun r w' => ∃ v G,r = .returned (.tuple #[.int .i64 (sRun D ⟨M,L,L,0⟩ K).n,v]) ∧ w'.ownsRow w.heap.size 42 2 v (sRun D ⟨M,L,L,0⟩ K).S.length (cellsK encP (sRun D ⟨M,L,L,0⟩ K).S) ∧ (∀ b,v.ownBlock = some b → ¬G b) ∧
   MB w0 w' mb (n + 12 * (sRun D ⟨M,L,L,0⟩ K).n) (sRun D ⟨M,L,L,0⟩ K).M G ∧ Stay F w w' ∧ ∀ i,G i → F i ∨ w.heap.size ≤ i := by
 have HC := Lib.hid (cloneP_walk (cap := cap) hk hnil (by omega))
 have HSK := Lib.hid (sRun_keep D ⟨M,L,L,0⟩ hs)
 have HGD := Lib.hid hgood
 have HEN := Lib.hid hend
 have HMB := Lib.hid h
 have H64 := Lib.hid h64
 have HL := Lib.hid hl
 have HNN := Lib.hid hn
 have HLH : Hid (∀ w1 v1,w1.ownsRow w.heap.size 42 2 v1 L.length (cellsK encP L) → Below w.heap.size w w1 → LH w.heap.size w1 F ad v1 L L) := fun w1 v1 ho hb =>
  ⟨hk.below hb,ho,fun g e => (hoff g e).1,fun b e hf => by have := h.at_.flt b hf; have := (ho.lt b e).1; omega,fun g e e2 => by have := (hoff g e).2; have := (ho.lt _ e2).1; omega,fun i hi => Nat.lt_of_lt_of_le (h.at_.flt i hi) hb.size,hb.size⟩
 have HB0 := Lib.hid h.keep.size
 clear h h64 hs hl hn hk hnil hoff hgood hend hL
 obtain ⟨RUN,HRUN⟩ : ∃ RUN : Nat → SS,Hid (RUN = sRun D ⟨M,L,L,0⟩) := ⟨_,rfl⟩
 have HRS : Hid (∀ k,RUN (k + 1) = sStep D (RUN k)) := fun k => by rw [HRUN.out]; rfl
 have HR0 : Hid (RUN 0 = ⟨M,L,L,0⟩) := by unfold Hid; rw [HRUN.out]; rfl
 rw [← HRUN.out] at HSK HGD HEN ⊢
 clear HRUN
 go_enter Tryz.func61,Tryz.ntmps61
 go_wp2_with (go_at_call 95; refine HC.out.mono ?_; rintro r w1 ⟨v1,rfl,hown1,hb1⟩)
 have HL1 := Lib.hid (HLH.out w1 v1 hown1 hb1)
 have HM1 := Lib.hid (HMB.out.below hb1)
 have HS1 : Hid (Stay F w w1) := Stay.of_below hb1
 clear hown1 hb1 HC HLH HMB
 go_loopg [1,6,7] K (fun gk s1 s6 s7 wr => ∃ (k : Nat) (G : Nat → Prop) (ad' : Option Addr) (c : Nat),k + gk = K ∧ s1 = .slice ad' (RUN k).L.length c ∧ (RUN k).L.length ≤ c ∧ s6 = .int .i64 (RUN k).n ∧ Hid (MB w0 wr mb (n + 12 * (RUN k).n) (RUN k).M G) ∧ Hid (LH w.heap.size wr G ad' s7 (RUN k).L (RUN k).S) ∧ Hid (Stay F w wr ∧ ∀ i,G i → F i ∨ w.heap.size ≤ i))
 case atStart =>
  refine ⟨0,F,ad,cap,by omega,?_,?_,?_,?_,?_,HS1.out,fun i hi => .inl hi⟩
  all_goals rw [HR0.out]
  ·exact hcap
  ·rfl
  ·exact HM1.out
  ·exact HL1.out
 case round =>
  obtain ⟨k,G,ad', c,hkg,rfl,hkc,rfl,HM,HH,HST⟩ := hrel
  by_cases hA : (RUN k).L = []
  ·have hkK : k = K := by
    rcases Nat.lt_or_ge k K with hlt | hge
    ·exact absurd hA (HGD.out k hlt).ne
    ·omega
   subst hkK
   have hz : (RUN k).L.length = 0 := by rw [hA]; rfl
   rw [hz]
   clear hA hz hkc hkg HGD HEN
   go_wp2
   go_ret2
   exact ⟨_,G,rfl,HH.out.s,HH.out.offs,HM.out,HST.out.1,HST.out.2⟩
  ·have hkK : k < K := by
    rcases Nat.lt_or_ge k K with hlt | hge
    ·exact hlt
    ·have : k = K := by omega
     subst this; exact absurd HEN.out hA
   have hg := HGD.out k hkK
   have hRS := HRS.out k
   obtain ⟨gk', rfl⟩ : ∃ x,gk = x + 1 := ⟨gk - 1,by omega⟩
   have HSN := Lib.hid (HSK.out k)
   have HK1 : Hid (k + 1 + gk' = K) := by unfold Hid; omega
   obtain ⟨j,hj⟩ : ∃ j,(RUN k).L.length = j + 1 := ⟨(RUN k).L.length - 1,by have := List.length_pos_iff.2 hA; omega⟩
   obtain ⟨g,rfl,hgl,q0,q1⟩ := HH.out.rd.pair (k := j) (by omega)
   have he : (RUN k).L.getD j (0,0) = (RUN k).e := by unfold SS.e; rw [hj]; rfl
   rw [he] at q0 q1
   have HV : Hid (LV w.heap.size wr G g j u7 ((RUN k).L.take j) (RUN k).S) := by
    have := HH.out.pop (by omega)
    rw [hj] at this
    exact this
   have HTL : Hid (((RUN k).L.take j).length = j) := by unfold Hid; rw [List.length_take]; omega
   have HIE : Hid (i64ok (RUN k).e.1 ∧ i64ok (RUN k).e.2) := ⟨hg.i1,hg.i2⟩
   have hll : j + 1 ≤ 1000000 := Nat.le_trans (Nat.le_of_eq hj.symm) hg.ll
   have hkc' : j + 1 ≤ c := Nat.le_trans (Nat.le_of_eq hj.symm) hkc
   have hwj : wrap64 ((j : Nat) : Int) = j := wrap_small1 (Nat.le_succ_of_le hll)
   have HLJ : Hid (j ≤ 1000000 ∧ (RUN k).S.length ≤ 1000000 ∧ (RUN k).n ≤ 1000000) := ⟨Nat.le_trans (Nat.le_succ j) hll,hg.sl,hg.nn⟩
   clear hll
   have B3 : Hid (Below wr.heap.size wr (wr.alloc (.cells #[.int .i64 (RUN k).e.1,.int .i64 (RUN k).e.2] 42))) := (Below.refl _ _).alloc (Nat.le_refl _) _
   have HS1 := Lib.hid (shared_walk (HM.out.at_.below B3.out) hg.i1 hg.i2)
   have HD1 : Hid (∀ W,Hid (Below wr.heap.size wr W) → Calls Tryz.prog 17 #[.pointer (some ⟨mb,0,none⟩),.int .i64 (RUN k).e.1,.int .i64 (RUN k).e.2] W fun r w' => r = .returned (.bool (D (RUN k).M (RUN k).e.1 (RUN k).e.2)) ∧ Below W.heap.size W w') := fun W hb => hg.del W mb _ G (HM.out.at_.below hb.out)
   have HGM := Lib.hid hg.may
   have HRK : Hid (RUN (k + 1) = sStep D (RUN k)) := hRS
   clear hg hRS HGD HEN HRS HSK hA hkg hgl he
   rw [hj]
   change Hid (Calls _ _ _ _ fun r w' => r = .returned (.tuple #[.agg #[.int .i64 (RUN k).e.1,.int .i64 (RUN k).e.2,.int .i64 (apD (RUN k).M (RUN k).e.1 (RUN k).e.2),.int .i64 (apD (RUN k).M (RUN k).e.2 (RUN k).e.1)],.bool (shB (RUN k).M (RUN k).e.1 (RUN k).e.2)]) ∧ Below _ _ w') at HS1
   obtain ⟨x,HX⟩ : ∃ x,Hid (apD (RUN k).M (RUN k).e.1 (RUN k).e.2 = x) := ⟨_,rfl⟩
   obtain ⟨y,HY⟩ : ∃ y,Hid (apD (RUN k).M (RUN k).e.2 (RUN k).e.1 = y) := ⟨_,rfl⟩
   rw [HX.out,HY.out] at HS1
   obtain ⟨sh,HSH⟩ : ∃ x,Hid (shB (RUN k).M (RUN k).e.1 (RUN k).e.2 = x) := ⟨_,rfl⟩
   obtain ⟨dl,HDL⟩ : ∃ x,Hid (D (RUN k).M (RUN k).e.1 (RUN k).e.2 = x) := ⟨_,rfl⟩
   rw [HSH.out] at HS1
   rw [HDL.out] at HD1
   obtain ⟨a,Ha⟩ : ∃ a,Hid ((RUN k).e.1 = a) := ⟨_,rfl⟩
   obtain ⟨b,Hb⟩ : ∃ b,Hid ((RUN k).e.2 = b) := ⟨_,rfl⟩
   obtain ⟨nk,Hn⟩ : ∃ m,Hid ((RUN k).n = m) := ⟨_,rfl⟩
   rw [Ha.out,Hb.out] at HS1 HD1 B3
   rw [Ha.out] at q0
   rw [Hb.out] at q1
   rw [Hn.out]
   have h3 : sh = false ∨ (sh = true ∧ dl = true) ∨ (sh = true ∧ dl = false) := by cases sh <;> cases dl <;> simp
   rcases h3 with rfl | ⟨rfl,rfl⟩ | ⟨rfl,rfl⟩
   ·have HNX : Hid (RUN (k + 1) = ⟨(RUN k).M,(RUN k).L.take j,(RUN k).S,nk⟩) := by
     unfold Hid; rw [HRK.out,sStep_skip (by rw [HSH.out]; rfl),hj,Hn.out]; rfl
    go_wp2_with (first
     |(go_at_call 46; with_reducible refine HS1.out.mono ?_; rintro r w5 ⟨rfl,hb5⟩; have C5 := Lib.hid ((below_off hb5).alloc (below_off hb5).size (.cells #[.int .i64 a,.int .i64 b,.int .i64 x,.int .i64 y] 84)); clear hb5))
    go_roundg gk'
    case rel =>
     refine ⟨k + 1,G,some ⟨g,0,none⟩,j,HK1.out,?_⟩
     rw [HNX.out]
     dsimp only
     rw [HTL.out]
     have hV := HV.out.below C5.out
     exact ⟨rfl,Nat.le_refl _,rfl,by have := HM.out.below C5.out; rw [Hn.out] at this; exact this,hV.head,HST.out.1.trans (Stay.of_below C5.out),HST.out.2⟩
    case measure => exact Nat.lt_succ_self _
   ·have HNX : Hid (RUN (k + 1) = ⟨(RUN k).M,(RUN k).L.take j,(RUN k).S,nk⟩) := by
     unfold Hid; rw [HRK.out,sStep_skip (by rw [HSH.out,HDL.out]; rfl),hj,Hn.out]; rfl
    go_wp2_with (first
     |(go_at_call 46; with_reducible refine HS1.out.mono ?_; rintro r w5 ⟨rfl,hb5⟩; have C5 := Lib.hid ((below_off hb5).alloc (below_off hb5).size (.cells #[.int .i64 a,.int .i64 b,.int .i64 x,.int .i64 y] 84)); have j0 := cell_al (cell_keep (new2 wr (.int .i64 a) (.int .i64 b) 42).1 hb5); have j1 := cell_al (cell_keep (new2 wr (.int .i64 a) (.int .i64 b) 42).2 hb5); clear hb5)
     |(go_at_call 17; with_reducible refine (HD1.out _ C5).mono ?_; rintro r w6 ⟨rfl,hb6⟩; have C6 := Lib.hid (C5.out.trans (hb6.mono C5.out.size)); clear hb6))
    go_roundg gk'
    case rel =>
     refine ⟨k + 1,G,some ⟨g,0,none⟩,j,HK1.out,?_⟩
     rw [HNX.out]
     dsimp only
     rw [HTL.out]
     have hV := HV.out.below C6.out
     exact ⟨rfl,Nat.le_refl _,rfl,by have := HM.out.below C6.out; rw [Hn.out] at this; exact this,hV.head,HST.out.1.trans (Stay.of_below C6.out),HST.out.2⟩
    case measure => exact Nat.lt_succ_self _
   ·have HNX : Hid (RUN (k + 1) = ⟨turnR (RUN k).M a b,(RUN k).L.take j ++ four (RUN k).M a b,(RUN k).S ++ four (RUN k).M a b,nk + 1⟩) := by
     unfold Hid; rw [HRK.out,sStep_flip (by rw [HSH.out,HDL.out]; rfl),hj,Hn.out,Ha.out,Hb.out]; rfl
    have HQ : Hid (four (RUN k).M a b = [(a,y),(y,b),(b,x),(x,a)]) := by
     have h1 := HX.out
     have h2 := HY.out
     rw [Ha.out,Hb.out] at h1 h2
     unfold Hid four
     rw [h1,h2]
    have HTN : Hid (∀ W,Hid (Below wr.heap.size wr W) → Calls Tryz.prog 13 #[.pointer (some ⟨mb,0,none⟩),.int .i64 a,.int .i64 b] W fun r w' => r = .returned (.int .i64 0) ∧ ∃ G', Hid (MB w0 w' mb (n + 12 * (nk + 1)) (turnR (RUN k).M a b) G' ∧ Stay G W w' ∧ ∀ i,G' i → G i ∨ W.heap.size ≤ i)) := by
     intro W hb
     have hm := HM.out.below hb.out
     have h1 := HIE.out
     have h2 := HGM.out HSH.out HDL.out
     have h3 := HSH.out
     have hnn := HLJ.out.2.2
     rw [Hn.out] at hm hnn
     rw [Ha.out,Hb.out] at h1 h2 h3
     refine (turn_ok hm (by rw [HSN.out.2]; exact H64.out) HSN.out.1 (by rw [HSN.out.2]; exact HL.out) (by have := HNN.out; omega) h1.1 h1.2 h3 h2).mono ?_
     rintro r w' ⟨rfl,G', h4,h5,h6⟩
     exact ⟨rfl,G', h4,h5,h6⟩
    have HGP : Hid (∀ i,G i → i < wr.heap.size) := HM.out.at_.flt
    go_wp2_with (first
     |(go_at_call 46; with_reducible refine HS1.out.mono ?_; rintro r w5 ⟨rfl,hb5⟩; have C5' := Lib.hid (below_off hb5); have C5 := Lib.hid ((below_off hb5).alloc (below_off hb5).size (.cells #[.int .i64 a,.int .i64 b,.int .i64 x,.int .i64 y] 84)); have j0 := cell_al (cell_keep (new2 wr (.int .i64 a) (.int .i64 b) 42).1 hb5); have j1 := cell_al (cell_keep (new2 wr (.int .i64 a) (.int .i64 b) 42).2 hb5); clear hb5)
     |(go_at_call 17; with_reducible refine (HD1.out _ C5).mono ?_; rintro r w6 ⟨rfl,hb6⟩; have C6 := Lib.hid (C5.out.trans (hb6.mono C5.out.size)); have k0 := cell_keep (j0 _) hb6; have k1 := cell_keep (j1 _) hb6; have P60 := Lib.hid (cell_keep (new4 w5 (.int .i64 a) (.int .i64 b) (.int .i64 x) (.int .i64 y) 84).1 hb6); have P61 := Lib.hid (cell_keep (new4 w5 (.int .i64 a) (.int .i64 b) (.int .i64 x) (.int .i64 y) 84).2.1 hb6); have P62 := Lib.hid (cell_keep (new4 w5 (.int .i64 a) (.int .i64 b) (.int .i64 x) (.int .i64 y) 84).2.2.1 hb6); have P63 := Lib.hid (cell_keep (new4 w5 (.int .i64 a) (.int .i64 b) (.int .i64 x) (.int .i64 y) 84).2.2.2 hb6); clear hb6 j0 j1)
     |(go_at_call 13; go_loud (with_reducible refine (HTN.out _ C6).mono ?_); go_loud (rintro r w7 ⟨rfl,G7,H7⟩); go_loud (have NP : ¬G w5.heap.size := fun e => Nat.lt_irrefl _ (Nat.lt_of_lt_of_le (HGP.out _ e) C5'.out.size); have m0 := cell_stay P60.out H7.out.2.1 NP; have m1 := cell_stay P61.out H7.out.2.1 NP; have m2 := cell_stay P62.out H7.out.2.1 NP; have m3 := cell_stay P63.out H7.out.2.1 NP; clear k0 k1 P60 P61 P62 P63 NP)))
    have HV7 : Hid (LV w.heap.size w7 G7 g j u7 ((RUN k).L.take j) (RUN k).S) := (HV.out.below C6.out).turn H7.out.2.1 H7.out.2.2 H7.out.1.at_.flt
    have HM7 := Lib.hid H7.out.1
    have HST7 : Hid (Stay F w w7 ∧ ∀ i,G7 i → F i ∨ w.heap.size ≤ i) := by
     have h1 : Stay F w w6 := HST.out.1.trans (Stay.of_below C6.out)
     refine ⟨h1.trans (H7.out.2.1.mono fun i hi => HST.out.2 i hi),fun i hi => ?_⟩
     rcases H7.out.2.2 i hi with e | e
     ·exact HST.out.2 i e
     ·exact .inr (Nat.le_trans h1.size e)
    clear m0 m1 m2 m3 H7 C6 C5 C5' HTN HGP HS1 HD1 HGM HIE q0 q1 hwj hkc'
    go_loopw [1,7,83] (fun s1 s7 s83 wq => ∃ i g' c' : Nat,i ≤ 4 ∧ s83 = .int .i64 i ∧ s1 = .slice (some ⟨g', 0,none⟩) (j + i) c' ∧ Hid (LV w.heap.size wq G7 g' c' s7 ((RUN k).L.take j ++ [(a,y),(y,b),(b,x),(x,a)].take i) ((RUN k).S ++ [(a,y),(y,b),(b,x),(x,a)].take i)) ∧ Hid (Fr w.heap.size G7 w7 wq)) (fun _ _ s83 _ => 4 - (intOf s83).toNat)
    case atStart => exact ⟨0,g,j,by decide,rfl,rfl,by have := HV7.out; unfold Hid; rw [List.take_zero,List.append_nil,List.append_nil]; exact this,⟨Below.refl _ _,fun _ _ => rfl⟩⟩
    case round =>
     obtain ⟨i,g', c', hi4,rfl,rfl,HLV,HFR⟩ := hrel
     by_cases hlt : i < 4
     ·have hltz : (i : Int) < 4 := by omega
      obtain ⟨p,q,hix,htk⟩ := four_at a b x y i hlt
      have HTK := Lib.hid htk
      have hwi : wrap64 ((i : Int) + 1) = ((i + 1 : Nat) : Int) := by unfold wrap64; omega
      clear htk hlt
      go_wp2
      rename (∀ (a : Act) (w : World),Code.wp _ _ _ a w → _) => hcA
      have HCA := Lib.hid (fun (_ : Unit) => hcA)
      clear hcA
      rename (∀ (a : Act) (w : World),Code.wp _ _ _ a w → _) => hcB
      have HCB := Lib.hid (fun (_ : Unit) => hcB)
      clear hcB
      repeat (rename (∀ (a : Act) (w : World),Code.wp _ _ _ a w → _) => ha; clear ha)
      obtain ⟨A,HA⟩ : ∃ A,Hid ((RUN k).L.take j ++ [(a,y),(y,b),(b,x),(x,a)].take i = A) := ⟨_,rfl⟩
      obtain ⟨S,HS⟩ : ∃ S,Hid ((RUN k).S ++ [(a,y),(y,b),(b,x),(x,a)].take i = S) := ⟨_,rfl⟩
      rw [HA.out,HS.out] at HLV
      have HAL : Hid (A.length = j + i) := by unfold Hid; rw [← HA.out,List.length_append,HTL.out,List.length_take]; simp only [List.length_cons,List.length_nil]; omega
      have HAM : Hid (A.length ≤ 1000000000) := by unfold Hid; rw [HAL.out]; have := HLJ.out; omega
      have HSM : Hid (S.length ≤ 1000000000) := by unfold Hid; rw [← HS.out,List.length_append,List.length_take]; simp only [List.length_cons,List.length_nil]; have := HLJ.out; omega
      have HF := HLV.out.fr (((Below.refl _ wr).alloc (Nat.le_refl _) (.cells #[.int .i64 p,.int .i64 q] 42)).alloc (by simp) (.cells #[.int .i64 p,.int .i64 q] 42)).drew
      have HE1 := Lib.hid (HFR.out.trans HF)
      have HF := HLV.out.fr ((((Below.refl _ wr).alloc (Nat.le_refl _) (.cells #[.int .i64 p,.int .i64 q] 42)).alloc (by simp) (.cells #[.int .i64 p,.int .i64 q] 42)).alloc (by simp; omega) (.cells #[.int .i64 p,.int .i64 q] 42)).drew
      have HE2 := Lib.hid (HFR.out.trans HF)
      have n0 : (wr.alloc (.cells #[.int .i64 p,.int .i64 q] 42)).drew.cell? ⟨wr.heap.size,0,none⟩ = some (.int .i64 p) ∧ (wr.alloc (.cells #[.int .i64 p,.int .i64 q] 42)).drew.cell? ⟨wr.heap.size,1,none⟩ = some (.int .i64 q) := new2 wr (.int .i64 p) (.int .i64 q) 42
      have n1 : ((wr.alloc (.cells #[.int .i64 p,.int .i64 q] 42)).alloc (.cells #[.int .i64 p,.int .i64 q] 42)).drew.cell? ⟨wr.heap.size,0,none⟩ = some (.int .i64 p) ∧ ((wr.alloc (.cells #[.int .i64 p,.int .i64 q] 42)).alloc (.cells #[.int .i64 p,.int .i64 q] 42)).drew.cell? ⟨wr.heap.size,1,none⟩ = some (.int .i64 q) := pair_al n0 _
      have n2 : (((wr.alloc (.cells #[.int .i64 p,.int .i64 q] 42)).alloc (.cells #[.int .i64 p,.int .i64 q] 42)).alloc (.cells #[.int .i64 p,.int .i64 q] 42)).drew.cell? ⟨wr.heap.size,0,none⟩ = some (.int .i64 p) ∧ (((wr.alloc (.cells #[.int .i64 p,.int .i64 q] 42)).alloc (.cells #[.int .i64 p,.int .i64 q] 42)).alloc (.cells #[.int .i64 p,.int .i64 q] 42)).drew.cell? ⟨wr.heap.size,1,none⟩ = some (.int .i64 q) := pair_al n1 _
      have HG7 : Hid (∀ b,u7.ownBlock = some b → b < wr.heap.size) := fun b hb => (HLV.out.s.lt b hb).2
      have b1 : NB ((wr.alloc (.cells #[.int .i64 p,.int .i64 q] 42)).alloc (.cells #[.int .i64 p,.int .i64 q] 42)) wr.heap.size (p,q) (wr.heap.size + 1) := by
       have := NB.new (wr.alloc (.cells #[.int .i64 p,.int .i64 q] 42)) (lo := wr.heap.size) (p,q) 42 (by simp)
       rw [show (wr.alloc (.cells #[.int .i64 p,.int .i64 q] 42)).heap.size = wr.heap.size + 1 from by simp] at this
       exact this
      have b2 : NB (((wr.alloc (.cells #[.int .i64 p,.int .i64 q] 42)).alloc (.cells #[.int .i64 p,.int .i64 q] 42)).alloc (.cells #[.int .i64 p,.int .i64 q] 42)) wr.heap.size (p,q) (wr.heap.size + 1 + 1) := by
       have := NB.new ((wr.alloc (.cells #[.int .i64 p,.int .i64 q] 42)).alloc (.cells #[.int .i64 p,.int .i64 q] 42)) (lo := wr.heap.size) (p,q) 42 (by simp; omega)
       rw [show ((wr.alloc (.cells #[.int .i64 p,.int .i64 q] 42)).alloc (.cells #[.int .i64 p,.int .i64 q] 42)).heap.size = wr.heap.size + 1 + 1 from by simp] at this
       exact this
      have B1 : Hid (NB ((wr.alloc (.cells #[.int .i64 p,.int .i64 q] 42)).alloc (.cells #[.int .i64 p,.int .i64 q] 42)).drew wr.heap.size (p,q) (wr.heap.size + 1)) := b1
      have B21 : Hid (NB (((wr.alloc (.cells #[.int .i64 p,.int .i64 q] 42)).alloc (.cells #[.int .i64 p,.int .i64 q] 42)).alloc (.cells #[.int .i64 p,.int .i64 q] 42)).drew wr.heap.size (p,q) (wr.heap.size + 1)) := b1.al _
      have B22 : Hid (NB (((wr.alloc (.cells #[.int .i64 p,.int .i64 q] 42)).alloc (.cells #[.int .i64 p,.int .i64 q] 42)).alloc (.cells #[.int .i64 p,.int .i64 q] 42)).drew wr.heap.size (p,q) (wr.heap.size + 1 + 1)) := b2
      clear b1 b2 HF
      have PA1 := Lib.hid (push_l_at ((HLV.out.al (.cells #[.int .i64 p,.int .i64 q] 42)).al (.cells #[.int .i64 p,.int .i64 q] 42)).drew B1.out HLV.out.lt HAM.out n1 38)
      have PA2 := Lib.hid (push_l_at (((HLV.out.al (.cells #[.int .i64 p,.int .i64 q] 42)).al (.cells #[.int .i64 p,.int .i64 q] 42)).al (.cells #[.int .i64 p,.int .i64 q] 42)).drew B21.out HLV.out.lt HAM.out n2 38)
      have PA3 := Lib.hid (push_l_at (((HLV.out.al (.cells #[.int .i64 p,.int .i64 q] 42)).al (.cells #[.int .i64 p,.int .i64 q] 42)).al (.cells #[.int .i64 p,.int .i64 q] 42)).drew B22.out HLV.out.lt HAM.out n2 38)
      rw [HAL.out] at PA1 PA2 PA3
      clear HLV HFR
      go_region_held3 (fun w' => w'.cell? ⟨wr.heap.size,0,none⟩ = some (.int .i64 p) ∧ w'.cell? ⟨wr.heap.size,1,none⟩ = some (.int .i64 q)) (first | with_reducible exact n0 | with_reducible exact n1 | with_reducible exact n2 | with_reducible exact hc10 | with_reducible exact hc9 | with_reducible exact pair_al hc9 _)
       (first
        |(obtain ⟨gz,cz,W10,hr10,hlv10,hfr10,hnb10,hc10,hlo10⟩ := push_s_at (hlv9.out.al (.cells #[.int .i64 p,.int .i64 q] 42)) (NB.new W9 (p,q) 42 (Nat.le_of_lt hlo9.out)) HG7.out HSM.out (pair_al hc9 _) 38; refine step_run_append rfl _ _ 38 rfl u7 (.slice (some ⟨W9.heap.size,0,none⟩) 1 1) rfl rfl _ _ hr10 ?_; have HF10 := Lib.hid ((HF9.out.trans (hlv9.out.frAl _)).trans hfr10.out))
        |(obtain ⟨gz,cz,W10,hr10,hlv10,hfr10,hnb10,hc10,hlo10⟩ := push_s_at hlv9.out (hnb9.out _ B22.out) HG7.out HSM.out hc9 38; refine step_run_append rfl _ _ 38 rfl u7 (.slice (some ⟨wr.heap.size + 1 + 1,0,none⟩) 1 1) rfl rfl _ _ hr10 ?_; have HF10 := Lib.hid (HF9.out.trans hfr10.out))
        |(obtain ⟨gz,cz,W10,hr10,hlv10,hfr10,hnb10,hc10,hlo10⟩ := push_s_at hlv9.out (hnb9.out _ B21.out) HG7.out HSM.out hc9 38; refine step_run_append rfl _ _ 38 rfl u7 (.slice (some ⟨wr.heap.size + 1,0,none⟩) 1 1) rfl rfl _ _ hr10 ?_; have HF10 := Lib.hid (HF9.out.trans hfr10.out))
        |(obtain ⟨g9,c9,W9,hr9,hlv9,hfr9,hnb9,hc9,hlo9⟩ := PA1.out; refine step_run_append rfl _ _ 38 rfl (.slice (some ⟨g', 0,none⟩) (j + i) c') (.slice (some ⟨wr.heap.size + 1,0,none⟩) 1 1) rfl rfl _ _ hr9 ?_; have HF9 := Lib.hid (HE1.out.trans hfr9.out))
        |(obtain ⟨g9,c9,W9,hr9,hlv9,hfr9,hnb9,hc9,hlo9⟩ := PA2.out; refine step_run_append rfl _ _ 38 rfl (.slice (some ⟨g', 0,none⟩) (j + i) c') (.slice (some ⟨wr.heap.size + 1,0,none⟩) 1 1) rfl rfl _ _ hr9 ?_; have HF9 := Lib.hid (HE2.out.trans hfr9.out))
        |(obtain ⟨g9,c9,W9,hr9,hlv9,hfr9,hnb9,hc9,hlo9⟩ := PA3.out; refine step_run_append rfl _ _ 38 rfl (.slice (some ⟨g', 0,none⟩) (j + i) c') (.slice (some ⟨wr.heap.size + 1 + 1,0,none⟩) 1 1) rfl rfl _ _ hr9 ?_; have HF9 := Lib.hid (HE2.out.trans hfr9.out)))
      all_goals
       have hcA := HCA.out ()
       have hcB := HCB.out ()
       have HLV : Hid (LV w.heap.size W10 G7 g9 c9 (.slice (some ⟨gz,0,none⟩) (S.length + 1) cz) ((RUN k).L.take j ++ [(a,y),(y,b),(b,x),(x,a)].take (i + 1)) ((RUN k).S ++ [(a,y),(y,b),(b,x),(x,a)].take (i + 1))) := by
        unfold Hid; rw [HTK.out,← List.append_assoc,← List.append_assoc,HA.out,HS.out]; exact hlv10.out
       clear PA1 PA2 PA3 B1 B21 B22 HE1 HE2 n0 n1 n2 hr9 hr10 hlv9 hlv10 hfr9 hfr10 hnb9 hnb10 hc9 hc10 hlo9 hlo10 HF9 HCA HCB hix
       go_wp2
       go_roundw
       case rel => exact ⟨i + 1,g9,c9,by omega,rfl,by rw [HAL.out]; rfl,HLV.out,HF10.out⟩
       case measure => simp only [intOf]; omega
     ·have hltz : ¬(i : Int) < 4 := by omega
      obtain rfl : i = 4 := by omega
      clear hlt
      go_wp2
      go_roundg gk'
      case rel =>
       refine ⟨k + 1,G7,some ⟨g', 0,none⟩,c', HK1.out,?_⟩
       rw [HNX.out,HQ.out]
       dsimp only
       have hlv : LV w.heap.size wr G7 g' c' u7 ((RUN k).L.take j ++ [(a,y),(y,b),(b,x),(x,a)]) ((RUN k).S ++ [(a,y),(y,b),(b,x),(x,a)]) := HLV.out
       have hlen : ((RUN k).L.take j ++ [(a,y),(y,b),(b,x),(x,a)]).length = j + 4 := by rw [List.length_append,HTL.out]; rfl
       have hrm := hlv.room
       rw [hlen] at hrm ⊢
       exact ⟨rfl,hrm,by rw [wrap_up1 (by have := HLJ.out.2.2; rw [Hn.out] at this; exact this)],HM7.out.lists HB0.out HFR.out.1 HFR.out.2,hlv.head,HST7.out.1.low HFR.out.1,HST7.out.2⟩
      case measure => exact Nat.lt_succ_self _
end Go.Proofs.YtbagikgpgdlkcaaGreatDoor
