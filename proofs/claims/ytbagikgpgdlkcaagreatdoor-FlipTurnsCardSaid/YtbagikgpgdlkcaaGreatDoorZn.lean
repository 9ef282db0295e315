/- Part of the proof. No conditions. -/
import Derived.Test.YtbagikgpgdlkcaaGreatDoorZm
set_option linter.all false
set_option maxHeartbeats 8000000
set_option maxRecDepth 100000
namespace Go.Proofs.YtbagikgpgdlkcaaGreatDoor
open Go.RowKit Tvf Go.Maps Go.WideMaps
theorem wpAnyH_more {P : Program} {md : Region.Mode} {ops : Array Oper} {Q : Exit → Act → World → Prop} {S S' : World → Prop} (hs : ∀ w,S w → S' w) : ∀ (fuel : Nat) (listed : Array Bool) (a : Act) (w : World),wpAnyH P md ops Q S fuel listed a w → wpAnyH P md ops Q S' fuel listed a w
 | 0,_,_,_,h => h
 | fuel + 1,_,_,_,h => ⟨h.1,fun i hi => wpOp_mono (fun a' w' h' => ⟨hs _ h'.1,wpAnyH_more hs fuel _ a' w' h'.2⟩) (h.2 i hi)⟩
def PrCells (w : World) (ad : Option Addr) (l : List (Int × Int)) : Prop :=
 0 < l.length → ∃ b off,ad = some ⟨b,off,none⟩ ∧ b < w.heap.size ∧ ∀ i,i < l.length →
  w.cell? ⟨b,off + i * 2,none⟩ = some (.int .i64 (l.getD i (0,0)).1) ∧ w.cell? ⟨b,off + i * 2 + 1,none⟩ = some (.int .i64 (l.getD i (0,0)).2)
theorem PrCells.below {w w' : World} {ad : Option Addr} {l : List (Int × Int)} (h : PrCells w ad l) (hb : Below w.heap.size w w') : PrCells w' ad l := by
 intro hl
 obtain ⟨b,off,rfl,hbb,hc⟩ := h hl
 exact ⟨b,off,rfl,Nat.lt_of_lt_of_le hbb hb.size,fun i hi => ⟨cell_keep (hc i hi).1 hb,cell_keep (hc i hi).2 hb⟩⟩
theorem fturns_big {w : World} {ap at_ sa la : Option Addr} {np cp nt ct ns cs nl cl : Nat} (h : 60 < np ∨ 120 < nt ∨ 60 < ns ∨ 60 < nl) :
  Calls Tryz.prog 4 #[.agg #[.slice ap np cp,.slice at_ nt ct,.slice sa ns cs],.slice la nl cl] w fun r w' => r = .returned (.bool true) ∧ Below w.heap.size w w' := by
 have HWK := Lib.hid fworks_walk
 have HB0 : Hid (∀ o,Below w.heap.size w (w.alloc o)) := fun o => (Below.refl _ _).alloc (Nat.le_refl _) o
 have HC := Lib.hid (fun W (hb : Below (w.alloc (.cells #[.slice ap np cp,.slice at_ nt ct,.slice sa ns cs] 26)).heap.size (w.alloc (.cells #[.slice ap np cp,.slice at_ nt ct,.slice sa ns cs] 26)) W) => (C3.new w (.slice ap np cp) (.slice at_ nt ct) (.slice sa ns cs) 26).below hb)
 by_cases hg : 60 < np ∨ 120 < nt ∨ 60 < ns
 ·have HLG : Hid (∀ W,Calls Tryz.prog 9 #[.agg #[.slice ap np cp,.slice at_ nt ct,.slice sa ns cs]] W fun r w' => r = .returned (.bool true) ∧ Below W.heap.size W w') := fun W => by
   have e : (decide (60 < np) || (decide (120 < nt) || decide (60 < ns))) = true := by simp; omega
   have := large17 ap at_ sa np cp nt ct ns cs W
   rw [e] at this
   exact this
  clear h hg
  go_enter Tryz.func4,Tryz.ntmps4
  go_wp2_with (first
   |(go_at_call 9; (with_reducible refine (HLG.out _).mono ?_); rintro r w2 ⟨rfl,hb2⟩; have B2 := Lib.hid (bseq B1.out hb2))
   |(go_at_call 8; (with_reducible refine (HWK.out _).mono ?_); rintro r w3 ⟨rfl,hb3⟩; have B3 := Lib.hid (bseq B2.out hb3))
   |(go_at_call 8; (with_reducible refine (HWK.out _).mono ?_); rintro r w1 ⟨rfl,hb1⟩; obtain ⟨c0,c1,c2⟩ := HC.out _ hb1; have B1 := Lib.hid (bseq (HB0.out _) hb1)))
  go_ret
  exact ⟨rfl,B3.out⟩
 ·have HLG : Hid (∀ W,Calls Tryz.prog 9 #[.agg #[.slice ap np cp,.slice at_ nt ct,.slice sa ns cs]] W fun r w' => r = .returned (.bool false) ∧ Below W.heap.size W w') := fun W => by
   have e : (decide (60 < np) || (decide (120 < nt) || decide (60 < ns))) = false := by simp; omega
   have := large17 ap at_ sa np cp nt ct ns cs W
   rw [e] at this
   exact this
  have hnl : (60 : Int) < (nl : Int) := by omega
  clear h hg
  go_enter Tryz.func4,Tryz.ntmps4
  go_wp2_with (first
   |(go_at_call 9; (with_reducible refine (HLG.out _).mono ?_); rintro r w2 ⟨rfl,hb2⟩; have B2 := Lib.hid (bseq B1.out hb2))
   |(go_at_call 8; (with_reducible refine (HWK.out _).mono ?_); rintro r w3 ⟨rfl,hb3⟩; have B3 := Lib.hid (bseq B2.out hb3))
   |(go_at_call 8; (with_reducible refine (HWK.out _).mono ?_); rintro r w1 ⟨rfl,hb1⟩; obtain ⟨c0,c1,c2⟩ := HC.out _ hb1; have B1 := Lib.hid (bseq (HB0.out _) hb1)))
  go_ret
  exact ⟨rfl,B3.out⟩
theorem fturns_nil {w : World} {l : List Pt} {ap : Option Addr} {cp : Nat} {T : List Tri3} {at_ : Option Addr} {ct : Nat} {S : List Seg3} {sa : Option Addr} {cs : Nat} {la : Option Addr} {nl cl : Nat} (h : GivenV w l ap cp T at_ ct S sa cs) (hk : allCode l ≠ 0) (hl : l.length ≤ 60) (hT : T.length ≤ 120) (hS : S.length ≤ 60) (hL : nl ≤ 60) :
  Calls Tryz.prog 4 #[.agg #[.slice ap l.length cp,.slice at_ T.length ct,.slice sa S.length cs],.slice la nl cl] w fun r w' => r = .returned (.bool true) ∧ Below w.heap.size w w' := by
 have HWK := Lib.hid fworks_walk
 have HB0 : Hid (∀ o,Below w.heap.size w (w.alloc o)) := fun o => (Below.refl _ _).alloc (Nat.le_refl _) o
 have HC := Lib.hid (fun W (hb : Below (w.alloc (.cells #[.slice ap l.length cp,.slice at_ T.length ct,.slice sa S.length cs] 26)).heap.size (w.alloc (.cells #[.slice ap l.length cp,.slice at_ T.length ct,.slice sa S.length cs] 26)) W) => (C3.new w (.slice ap l.length cp) (.slice at_ T.length ct) (.slice sa S.length cs) 26).below hb)
 have HLG : Hid (∀ W,Calls Tryz.prog 9 #[.agg #[.slice ap l.length cp,.slice at_ T.length ct,.slice sa S.length cs]] W fun r w' => r = .returned (.bool false) ∧ Below W.heap.size W w') := fun W => by
  have e : (decide (60 < l.length) || (decide (120 < T.length) || decide (60 < S.length))) = false := by simp; omega
  have := large17 ap at_ sa l.length cp T.length ct S.length cs W
  rw [e] at this
  exact this
 have HMD := Lib.hid (fun W (hb : Below w.heap.size w W) => both17_bad (at_ := at_) (nt := T.length) (ct := ct) (sa := sa) (ns := S.length) (cs := cs) (cp := cp) (h.p.below hb) h.p64 hk)
 have hnl : ¬(60 : Int) < (nl : Int) := by omega
 clear h hk hl hT hS hL
 go_enter Tryz.func4,Tryz.ntmps4
 go_wp2_with (first
  |(go_at_call 9; (with_reducible refine (HLG.out _).mono ?_); rintro r w2 ⟨rfl,hb2⟩; clear c0 c1 c2; obtain ⟨c0,c1,c2⟩ := K1.out.below hb2; have B2 := Lib.hid (bseq B1.out hb2))
  |(go_at_call 16; (with_reducible refine (HMD.out _ B2.out).mono ?_); rintro r w3 ⟨rfl,hb3⟩; have B3 := Lib.hid (bseq B2.out hb3))
  |(go_at_call 8; (with_reducible refine (HWK.out _).mono ?_); rintro r w4 ⟨rfl,hb4⟩; have B4 := Lib.hid (bseq B3.out hb4))
  |(go_at_call 8; (with_reducible refine (HWK.out _).mono ?_); rintro r w1 ⟨rfl,hb1⟩; have k1 := HC.out _ hb1; have K1 := Lib.hid k1; obtain ⟨c0,c1,c2⟩ := k1; have B1 := Lib.hid (bseq (HB0.out _) hb1)))
 go_ret
 exact ⟨rfl,B4.out⟩
theorem fturns_main {w : World} {l : List Pt} {ap : Option Addr} {cp : Nat} {T : List Tri3} {at_ : Option Addr} {ct : Nat} {S : List Seg3} {sa : Option Addr} {cs : Nat} {L : List (Int × Int)} {la : Option Addr} {cl : Nat} (h : GivenV w l ap cp T at_ ct S sa cs) (hk : allCode l = 0) (hl : l.length ≤ 60) (hT : T.length ≤ 120) (hS : S.length ≤ 60) (hL : L.length ≤ 60) (hp : PrCells w la L) (hi64 : ∀ e,e ∈ L → i64ok e.1 ∧ i64ok e.2) (hok : ∀ p,p ∈ l → ptOK p = true) :
  Calls Tryz.prog 4 #[.agg #[.slice ap l.length cp,.slice at_ T.length ct,.slice sa S.length cs],.slice la L.length cl] w fun r w' => r = .returned (.bool true) ∧ Below w.heap.size w w' := by
 have HWK := Lib.hid fworks_walk
 have HB0 : Hid (∀ o,Below w.heap.size w (w.alloc o)) := fun o => (Below.refl _ _).alloc (Nat.le_refl _) o
 have HC := Lib.hid (fun W (hb : Below (w.alloc (.cells #[.slice ap l.length cp,.slice at_ T.length ct,.slice sa S.length cs] 26)).heap.size (w.alloc (.cells #[.slice ap l.length cp,.slice at_ T.length ct,.slice sa S.length cs] 26)) W) => (C3.new w (.slice ap l.length cp) (.slice at_ T.length ct) (.slice sa S.length cs) 26).below hb)
 have HLG : Hid (∀ W,Calls Tryz.prog 9 #[.agg #[.slice ap l.length cp,.slice at_ T.length ct,.slice sa S.length cs]] W fun r w' => r = .returned (.bool false) ∧ Below W.heap.size W w') := fun W => by
  have e : (decide (60 < l.length) || (decide (120 < T.length) || decide (60 < S.length))) = false := by simp; omega
  have := large17 ap at_ sa l.length cp T.length ct S.length cs W
  rw [e] at this
  exact this
 have HMD : Hid (∀ W,Below w.heap.size w W → Calls Tryz.prog 16 #[.agg #[.slice ap l.length cp,.slice at_ T.length ct,.slice sa S.length cs]] W fun r w' => ∃ mb xb,r = .returned (.tuple #[.pointer (some ⟨mb,0,none⟩),.pointer (some ⟨xb,0,none⟩)]) ∧ Hid (∃ W0,Below w.heap.size w W0 ∧ BOT W0 w' l mb xb 1000 200 100)) := fun W hb => by
  refine (both17_t (h.below hb) hk hl hT hS).mono ?_
  rintro r w' ⟨mb,xb,rfl,hx⟩
  obtain ⟨W0,h1,h2⟩ := hx.out
  exact ⟨mb,xb,rfl,W0,hb.trans (h1.mono hb.size),h2⟩
 have H64 := Lib.hid h.p64
 have HOK := Lib.hid hok
 have HLL := Lib.hid hl
 have HPL := Lib.hid hp
 have HI := Lib.hid hi64
 have HNL := Lib.hid hL
 have hnl : ¬(60 : Int) < (L.length : Int) := by omega
 clear h hk hl hT hS hL hp hi64 hok
 go_enter Tryz.func4,Tryz.ntmps4
 go_wp2_with (first
  |(go_at_call 9; (with_reducible refine (HLG.out _).mono ?_); rintro r w2 ⟨rfl,hb2⟩; clear c0 c1 c2; obtain ⟨c0,c1,c2⟩ := K1.out.below hb2; have B2 := Lib.hid (bseq B1.out hb2))
  |(go_at_call 16; (with_reducible refine (HMD.out _ B2.out).mono ?_); rintro r w3 ⟨mb,xb,rfl,HX⟩)
  |(go_at_call 8; (with_reducible refine (HWK.out _).mono ?_); rintro r w1 ⟨rfl,hb1⟩; have k1 := HC.out _ hb1; have K1 := Lib.hid k1; obtain ⟨c0,c1,c2⟩ := k1; have B1 := Lib.hid (bseq (HB0.out _) hb1)))
 clear c0 c1 c2 K1 HC HB0 HLG HMD hb1 hb2 B1 B2
 obtain ⟨W0,hbW,hbot⟩ := HX.out
 have HBW := Lib.hid hbW
 have HX3 := Lib.hid hbot
 clear hbW hbot HX
 go_loopw [7] (fun s7 wr => ∃ i : Nat,i ≤ L.length ∧ s7 = .int .i64 i ∧ Hid (BOT W0 wr l mb xb (1000 + 12 * i) (200 + 2 * i) 100)) (fun s7 _ => L.length - (intOf s7).toNat)
 case atStart => exact ⟨0,Nat.zero_le _,rfl,HX3.out⟩
 case round =>
  obtain ⟨i,hi,rfl,HX⟩ := hrel
  have HWB : Hid (Below w.heap.size w wr) := bseq HBW.out HX.out.keep
  by_cases hlt : i < L.length
  ·obtain ⟨bb,off,rfl,hbb,hc⟩ := (HPL.out.below HWB.out) (by omega)
   obtain ⟨q0,q1⟩ := hc i hlt
   have hmem : L.getD i (0,0) ∈ L := by rw [List.getD_eq_getElem?_getD,List.getElem?_eq_getElem hlt]; exact List.getElem_mem hlt
   have HII := Lib.hid (HI.out _ hmem)
   clear hc hmem hbb
   generalize L.getD i (0,0) = e at *
   obtain ⟨a,b⟩ := e
   dsimp only at q0 q1 HII
   have hz : (i : Int) < (L.length : Int) := by omega
   have hi0 : (0 : Int) ≤ (i : Int) := by omega
   have hw1 : wrap64 ((i : Int) + 1) = (i : Int) + 1 := by have := HNL.out; unfold wrap64; omega
   have h60 := HNL.out
   obtain ⟨B,n,M,F,T', S', R,H,tw,fx⟩ := HX.out
   have hP := H.P
   have h64' : ∀ p,p ∈ M.P → pt64 p := by rw [hP]; exact H64.out
   have hok' : ∀ p,p ∈ M.P → ptOK p = true := by rw [hP]; exact HOK.out
   have hl' : M.P.length ≤ 1048576 := by rw [hP]; have := HLL.out; omega
   have ht' := H.ht
   have hs' := H.hs
   obtain ⟨ad,cap,vT,vS,hx1,hx2,hx3⟩ := H.x
   have hx1' : RMs wr B xb M.P ad cap T' vT S' vS := by rw [hP]; exact hx1
   have HD1 := Lib.hid (fun W (hb : Below wr.heap.size wr W) => del_gen (H.m.at_.below hb) h64' hok' tw.s hl' HII.out.1 HII.out.2)
   have HD2 := Lib.hid (fun W (hb : Below wr.heap.size wr W) => del17 (hx1'.below hb) tw fx h64' hok' (by omega) (by omega) a b)
   have HM1 := Lib.hid (fun W (hb : Below wr.heap.size wr W) => fmay_walk (H.m.at_.below hb) h64' tw.s hl' HII.out.1 HII.out.2)
   have HM2 := Lib.hid (fun W (hb : Below wr.heap.size wr W) => may17 (hx1'.below hb) tw fx h64' (by omega) (by omega) a b)
   have HT1 := Lib.hid (fun W (hb : Below wr.heap.size wr W) => (H.low hb).turn_m H64.out (by have := HLL.out; omega) (by omega) HII.out.1 HII.out.2)
   have HT2 : Hid (∀ W,(∃ n' G,BO W0 W l mb xb (1000 + 12 * i + 12) (200 + 2 * i) 100 B n' (tnM M a b) G T' S' R) → Calls Tryz.prog 21 #[.pointer (some ⟨xb,0,none⟩),.int .i64 a,.int .i64 b] W fun r w' => ∃ g s cg cs,r = .returned (.int .i64 (tnCode M a b)) ∧ w'.cell? ⟨xb,1,none⟩ = some (.slice g (tnT M T' a b).length cg) ∧ w'.cell? ⟨xb,2,none⟩ = some (.slice s S'.length cs) ∧ Hid (TSt W0 w' l mb xb (1000 + 12 * i + 12) (200 + 2 * i + 2) 100 (tnM M a b) (tnT M T' a b) S' g s cg cs)) := fun W ⟨n', G,hH⟩ => by
    refine (hH.turn_x2 tw fx hP H64.out (by omega) (by omega) a b).mono ?_
    rintro r w' ⟨rfl,hR⟩
    obtain ⟨R', hB⟩ := hR.out
    obtain ⟨g,s,cg,cs,hts⟩ := hB.tst (tnM_twin tw a b) (by rw [tnM_fx]; exact fx)
    exact ⟨g,s,cg,cs,rfl,hts.cells.1,hts.cells.2,hts⟩
   have hl1 : l.length ≤ 1048576 := by have := HLL.out; omega
   have hl2 : l.length ≤ 100 := by have := HLL.out; omega
   have HTR : Hid (∀ W g s cg cs,TSt W0 W l mb xb (1000 + 12 * i + 12) (200 + 2 * i + 2) 100 (tnM M a b) (tnT M T' a b) S' g s cg cs → Calls Tryz.prog 11 #[.pointer (some ⟨mb,0,none⟩)] W fun r w' => ∃ ad cap,r = .returned (.slice ad (trisL (tnM M a b).ap (tnM M a b).P.length).length cap) ∧ KCells encT w' ad (trisL (tnM M a b).ap (tnM M a b).P.length) ∧ Below W.heap.size W w') := fun W g s cg cs h => h.tris hl1
   have HSR : Hid (∀ W g s cg cs,TSt W0 W l mb xb (1000 + 12 * i + 12) (200 + 2 * i + 2) 100 (tnM M a b) (tnT M T' a b) S' g s cg cs → Calls Tryz.prog 22 #[.slice g (tnT M T' a b).length cg] W fun r w' => ∃ ad cap,r = .returned (.slice ad (trisL (tnM M a b).ap (tnM M a b).P.length).length cap) ∧ KCells encT w' ad (trisL (tnM M a b).ap (tnM M a b).P.length) ∧ Below W.heap.size W w') := fun W g s cg cs h => h.sorted (by omega)
   have HFX : Hid (∀ W g s cg cs,TSt W0 W l mb xb (1000 + 12 * i + 12) (200 + 2 * i + 2) 100 (tnM M a b) (tnT M T' a b) S' g s cg cs → Calls Tryz.prog 24 #[.pointer (some ⟨mb,0,none⟩)] W fun r w' => ∃ ad cap,r = .returned (.slice ad S'.length cap) ∧ KCells encS w' ad S' ∧ Below W.heap.size W w') := fun W g s cg cs h => h.fixes (by omega)
   have HLN : Hid (∀ W g s cg cs,TSt W0 W l mb xb (1000 + 12 * i + 12) (200 + 2 * i + 2) 100 (tnM M a b) (tnT M T' a b) S' g s cg cs → (trisL (tnM M a b).ap (tnM M a b).P.length).length ≤ 10000 ∧ S'.length ≤ 10000) := fun W g s cg cs h => h.len hl2 (by omega)
   clear h64' hok' hl' ht' hs' hx1 hx2 hx3 hx1' H tw fx hP h60 hl1 hl2
   generalize tnM M a b = M2 at *
   generalize tnT M T' a b = T2 at *
   generalize delB M a b = dl at *
   generalize (shB M a b && mayB M a b) = my at *
   generalize tnCode M a b = code at *
   generalize trisL M2.ap M2.P.length = TL at *
   have HST : Hid (∀ ad bd ca cb W,KCells encT W ad TL → KCells encT W bd TL → TL.length ≤ 10000 → Calls Tryz.prog 14 #[.slice ad TL.length ca,.slice bd TL.length cb] W fun r w' => r = .returned (.bool true) ∧ Below W.heap.size W w') := fun ad bd ca cb W h1 h2 h3 => sameTris_walk TL ad bd ca cb W h1 h2 (by omega)
   have HSS : Hid (∀ ad bd ca cb W,KCells encS W ad S' → KCells encS W bd S' → S'.length ≤ 10000 → Calls Tryz.prog 23 #[.slice ad S'.length ca,.slice bd S'.length cb] W fun r w' => r = .returned (.bool true) ∧ Below W.heap.size W w') := fun ad bd ca cb W h1 h2 h3 => sameSegs_walk S' ad bd ca cb W h1 h2 (by omega)
   have D0 : Hid (Below wr.heap.size wr wr.drew) := (Below.refl _ _).drew
   go_upto_region 13 with fail
   clear q0 q1
   rename (∀ (a : Act) (w : World),Code.wp _ _ _ a w → _) => hcA
   have HCA := Lib.hid (fun (_ : Unit) => hcA)
   clear hcA
   rename (∀ (a : Act) (w : World),Code.wp _ _ _ a w → _) => hcB
   have HCB := Lib.hid (fun (_ : Unit) => hcB)
   clear hcB
   repeat (rename (∀ (a : Act) (w : World),Code.wp _ _ _ a w → _) => ha; clear ha)
   refine wp_region_held_drew (S := fun _ => True) (by kernel_rfl) trivial (fun _ => ?_)
   refine wpAnyH_take (i := 0) (oi := ⟨some 44,_,_,_,_,none⟩) (v := ?_) rfl (by kernel_rfl) (by kernel_rfl) (by kernel_rfl) (fun _ _ _ h => h) (Or.inl ⟨by rfl,?_⟩) trivial ?_
   rotate_left
   ·intro W hSw; (try dsimp only at hSw); go_simp; try with_reducible rfl
   try simp only [Act.put,List.setIfInBounds_toArray,List.set_cons_zero,List.set_cons_succ]
   refine wpAnyH_take (i := 1) (oi := ⟨some 45,_,_,_,_,none⟩) (v := ?_) rfl (by kernel_rfl) (by kernel_rfl) (by kernel_rfl) (fun _ _ _ h => h) (Or.inl ⟨by rfl,?_⟩) trivial ?_
   rotate_left
   ·intro W hSw; (try dsimp only at hSw); go_simp; try with_reducible rfl
   try simp only [Act.put,List.setIfInBounds_toArray,List.set_cons_zero,List.set_cons_succ]
   refine wpAnyH_take (i := 2) (oi := ⟨some 46,_,_,_,_,none⟩) (v := ?_) rfl (by kernel_rfl) (by kernel_rfl) (by kernel_rfl) (fun _ _ _ h => h) (Or.inl ⟨by rfl,?_⟩) trivial ?_
   rotate_left
   ·intro W hSw; (try dsimp only at hSw); go_simp; try with_reducible rfl
   try simp only [Act.put,List.setIfInBounds_toArray,List.set_cons_zero,List.set_cons_succ]
   refine wpAnyH_take (i := 4) (oi := ⟨some 48,_,_,_,_,none⟩) (v := ?_) rfl (by kernel_rfl) (by kernel_rfl) (by kernel_rfl) (fun _ _ _ h => h) (Or.inl ⟨by rfl,?_⟩) trivial ?_
   rotate_left
   ·intro W hSw; (try dsimp only at hSw); go_simp; try with_reducible rfl
   try simp only [Act.put,List.setIfInBounds_toArray,List.set_cons_zero,List.set_cons_succ]
   refine wpAnyH_take (i := 5) (oi := ⟨some 49,_,_,_,_,none⟩) (v := ?_) rfl (by kernel_rfl) (by kernel_rfl) (by kernel_rfl) (fun _ _ _ h => h) (Or.inl ⟨by rfl,?_⟩) trivial ?_
   rotate_left
   ·intro W hSw; (try dsimp only at hSw); go_simp; try with_reducible rfl
   try simp only [Act.put,List.setIfInBounds_toArray,List.set_cons_zero,List.set_cons_succ]
   refine wpAnyH_take (i := 6) (oi := ⟨some 50,_,_,_,_,none⟩) (v := ?_) rfl (by kernel_rfl) (by kernel_rfl) (by kernel_rfl) (fun _ _ _ h => h) (Or.inl ⟨by rfl,?_⟩) trivial ?_
   rotate_left
   ·intro W hSw; (try dsimp only at hSw); go_simp; try with_reducible rfl
   try simp only [Act.put,List.setIfInBounds_toArray,List.set_cons_zero,List.set_cons_succ]
   refine wpAnyH_ready (rs := [3]) (by kernel_rfl) (by simp) (AllReadyH.cons (o := ⟨some 47,_,_,_,_,none⟩) rfl (fun K hK => ?_) AllReadyH.nil)
   go_simp
   go_at_call 17; (with_reducible refine (HD1.out _ D0.out).mono ?_); rintro r w1 ⟨rfl,hb1⟩; have D1 := Lib.hid (bseq D0.out hb1)
   refine hK.out _ _ trivial (fun _ => ?_)
   clear hK K
   try simp only [Act.put,List.setIfInBounds_toArray,List.set_cons_zero,List.set_cons_succ]
   refine wpAnyH_ready (rs := [7]) (by kernel_rfl) (by simp) (AllReadyH.cons (o := ⟨some 51,_,_,_,_,none⟩) rfl (fun K hK => ?_) AllReadyH.nil)
   go_simp
   go_at_call 18; (with_reducible refine (HD2.out _ D1.out).mono ?_); rintro r w2 ⟨rfl,hb2⟩; have D2 := Lib.hid (bseq D1.out hb2)
   refine hK.out _ _ trivial (fun _ => ?_)
   clear hK K
   try simp only [Act.put,List.setIfInBounds_toArray,List.set_cons_zero,List.set_cons_succ]
   refine wpAnyH_take (i := 8) (oi := ⟨some 52,_,_,_,_,none⟩) (v := ?_) rfl (by kernel_rfl) (by kernel_rfl) (by kernel_rfl) (fun _ _ _ h => h) (Or.inl ⟨by rfl,?_⟩) trivial ?_
   rotate_left
   ·intro W hSw; (try dsimp only at hSw); go_simp; try with_reducible rfl
   try simp only [Act.put,List.setIfInBounds_toArray,List.set_cons_zero,List.set_cons_succ]
   refine wpAnyH_take (i := 9) (oi := ⟨some 53,_,_,_,_,none⟩) (v := ?_) rfl (by kernel_rfl) (by kernel_rfl) (by kernel_rfl) (fun _ _ _ h => h) (Or.inl ⟨by rfl,?_⟩) trivial ?_
   rotate_left
   ·intro W hSw; (try dsimp only at hSw); go_simp; try with_reducible rfl
   try simp only [Act.put,List.setIfInBounds_toArray,List.set_cons_zero,List.set_cons_succ]
   refine wpAnyH_take (i := 10) (oi := ⟨some 54,_,_,_,_,some (9,false)⟩) (v := ?_) rfl (by kernel_rfl) (by kernel_rfl) (by kernel_rfl) (fun _ _ _ h => h) (Or.inl ⟨by rfl,?_⟩) trivial ?_
   rotate_left
   ·intro W hSw; (try dsimp only at hSw); go_simp; try with_reducible rfl
   try simp only [Act.put,List.setIfInBounds_toArray,List.set_cons_zero,List.set_cons_succ]
   refine wpAnyH_take (i := 11) (oi := ⟨some 55,_,_,_,_,some (9,false)⟩) (v := ?_) rfl (by kernel_rfl) (by kernel_rfl) (by kernel_rfl) (fun _ _ _ h => h) (Or.inl ⟨by rfl,?_⟩) trivial ?_
   rotate_left
   ·intro W hSw; (try dsimp only at hSw); go_simp; try with_reducible rfl
   try simp only [Act.put,List.setIfInBounds_toArray,List.set_cons_zero,List.set_cons_succ]
   refine wpAnyH_take (i := 12) (oi := ⟨some 56,_,_,_,_,some (9,false)⟩) (v := ?_) rfl (by kernel_rfl) (by kernel_rfl) (by kernel_rfl) (fun _ _ _ h => h) (Or.inl ⟨by rfl,?_⟩) trivial ?_
   rotate_left
   ·intro W hSw; (try dsimp only at hSw); go_simp; try with_reducible rfl
   try simp only [Act.put,List.setIfInBounds_toArray,List.set_cons_zero,List.set_cons_succ]
   refine wpAnyH_take (i := 14) (oi := ⟨some 58,_,_,_,_,some (9,false)⟩) (v := ?_) rfl (by kernel_rfl) (by kernel_rfl) (by kernel_rfl) (fun _ _ _ h => h) (Or.inl ⟨by rfl,?_⟩) trivial ?_
   rotate_left
   ·intro W hSw; (try dsimp only at hSw); go_simp; try with_reducible rfl
   try simp only [Act.put,List.setIfInBounds_toArray,List.set_cons_zero,List.set_cons_succ]
   refine wpAnyH_take (i := 15) (oi := ⟨some 59,_,_,_,_,some (9,false)⟩) (v := ?_) rfl (by kernel_rfl) (by kernel_rfl) (by kernel_rfl) (fun _ _ _ h => h) (Or.inl ⟨by rfl,?_⟩) trivial ?_
   rotate_left
   ·intro W hSw; (try dsimp only at hSw); go_simp; try with_reducible rfl
   try simp only [Act.put,List.setIfInBounds_toArray,List.set_cons_zero,List.set_cons_succ]
   refine wpAnyH_take (i := 16) (oi := ⟨some 60,_,_,_,_,some (9,false)⟩) (v := ?_) rfl (by kernel_rfl) (by kernel_rfl) (by kernel_rfl) (fun _ _ _ h => h) (Or.inl ⟨by rfl,?_⟩) trivial ?_
   rotate_left
   ·intro W hSw; (try dsimp only at hSw); go_simp; try with_reducible rfl
   try simp only [Act.put,List.setIfInBounds_toArray,List.set_cons_zero,List.set_cons_succ]
   refine wpAnyH_ready (rs := [13]) (by kernel_rfl) (by simp) (AllReadyH.cons (o := ⟨some 57,_,_,_,_,some (9,false)⟩) rfl (fun K hK => ?_) AllReadyH.nil)
   go_simp
   go_at_call 19; (with_reducible refine (HM1.out _ D2.out).mono ?_); rintro r w3 ⟨rfl,hb3⟩; have D3 := Lib.hid (bseq D2.out hb3)
   refine hK.out _ _ trivial (fun _ => ?_)
   clear hK K
   try simp only [Act.put,List.setIfInBounds_toArray,List.set_cons_zero,List.set_cons_succ]
   refine wpAnyH_ready (rs := [17]) (by kernel_rfl) (by simp) (AllReadyH.cons (o := ⟨some 61,_,_,_,_,some (9,false)⟩) rfl (fun K hK => ?_) AllReadyH.nil)
   go_simp
   go_at_call 20; (with_reducible refine (HM2.out _ D3.out).mono ?_); rintro r w4 ⟨rfl,hb4⟩; have D4 := Lib.hid (bseq D3.out hb4)
   refine hK.out _ _ trivial (fun _ => ?_)
   clear hK K
   try simp only [Act.put,List.setIfInBounds_toArray,List.set_cons_zero,List.set_cons_succ]
   refine wpAnyH_take (i := 18) (oi := ⟨some 62,_,_,_,_,some (9,false)⟩) (v := ?_) rfl (by kernel_rfl) (by kernel_rfl) (by kernel_rfl) (fun _ _ _ h => h) (Or.inl ⟨by rfl,?_⟩) trivial ?_
   rotate_left
   ·intro W hSw; (try dsimp only at hSw); go_simp; try with_reducible rfl
   try simp only [Act.put,List.setIfInBounds_toArray,List.set_cons_zero,List.set_cons_succ]
   refine wpAnyH_take (i := 19) (oi := ⟨some 63,_,_,_,_,none⟩) (v := ?_) rfl (by kernel_rfl) (by kernel_rfl) (by kernel_rfl) (fun _ _ _ h => h) (Or.inl ⟨by rfl,?_⟩) trivial ?_
   rotate_left
   ·intro W hSw; (try dsimp only at hSw); go_simp; try with_reducible rfl
   try simp only [Act.put,List.setIfInBounds_toArray,List.set_cons_zero,List.set_cons_succ]
   refine wpAnyH_take (i := 20) (oi := ⟨some 64,_,_,_,_,none⟩) (v := ?_) rfl (by kernel_rfl) (by kernel_rfl) (by kernel_rfl) (fun _ _ _ h => h) (Or.inl ⟨by rfl,?_⟩) trivial ?_
   rotate_left
   ·intro W hSw; (try dsimp only at hSw); go_simp; try with_reducible rfl
   try simp only [Act.put,List.setIfInBounds_toArray,List.set_cons_zero,List.set_cons_succ]
   refine wpAnyH_take (i := 21) (oi := ⟨some 65,_,_,_,_,some (20,false)⟩) (v := ?_) rfl (by kernel_rfl) (by kernel_rfl) (by kernel_rfl) (fun _ _ _ h => h) (Or.inl ⟨by rfl,?_⟩) trivial ?_
   rotate_left
   ·intro W hSw; (try dsimp only at hSw); go_simp; try with_reducible rfl
   try simp only [Act.put,List.setIfInBounds_toArray,List.set_cons_zero,List.set_cons_succ]
   refine wpAnyH_take (i := 22) (oi := ⟨some 66,_,_,_,_,some (20,false)⟩) (v := ?_) rfl (by kernel_rfl) (by kernel_rfl) (by kernel_rfl) (fun _ _ _ h => h) (Or.inl ⟨by rfl,?_⟩) trivial ?_
   rotate_left
   ·intro W hSw; (try dsimp only at hSw); go_simp; try with_reducible rfl
   try simp only [Act.put,List.setIfInBounds_toArray,List.set_cons_zero,List.set_cons_succ]
   refine wpAnyH_take (i := 23) (oi := ⟨some 67,_,_,_,_,some (20,false)⟩) (v := ?_) rfl (by kernel_rfl) (by kernel_rfl) (by kernel_rfl) (fun _ _ _ h => h) (Or.inl ⟨by rfl,?_⟩) trivial ?_
   rotate_left
   ·intro W hSw; (try dsimp only at hSw); go_simp; try with_reducible rfl
   try simp only [Act.put,List.setIfInBounds_toArray,List.set_cons_zero,List.set_cons_succ]
   refine wpAnyH_take (i := 25) (oi := ⟨some 69,_,_,_,_,some (20,false)⟩) (v := ?_) rfl (by kernel_rfl) (by kernel_rfl) (by kernel_rfl) (fun _ _ _ h => h) (Or.inl ⟨by rfl,?_⟩) trivial ?_
   rotate_left
   ·intro W hSw; (try dsimp only at hSw); go_simp; try with_reducible rfl
   try simp only [Act.put,List.setIfInBounds_toArray,List.set_cons_zero,List.set_cons_succ]
   refine wpAnyH_take (i := 26) (oi := ⟨some 70,_,_,_,_,some (20,false)⟩) (v := ?_) rfl (by kernel_rfl) (by kernel_rfl) (by kernel_rfl) (fun _ _ _ h => h) (Or.inl ⟨by rfl,?_⟩) trivial ?_
   rotate_left
   ·intro W hSw; (try dsimp only at hSw); go_simp; try with_reducible rfl
   try simp only [Act.put,List.setIfInBounds_toArray,List.set_cons_zero,List.set_cons_succ]
   refine wpAnyH_take (i := 27) (oi := ⟨some 71,_,_,_,_,some (20,false)⟩) (v := ?_) rfl (by kernel_rfl) (by kernel_rfl) (by kernel_rfl) (fun _ _ _ h => h) (Or.inl ⟨by rfl,?_⟩) trivial ?_
   rotate_left
   ·intro W hSw; (try dsimp only at hSw); go_simp; try with_reducible rfl
   try simp only [Act.put,List.setIfInBounds_toArray,List.set_cons_zero,List.set_cons_succ]
   refine wpAnyH_ready (rs := [24]) (by kernel_rfl) (by simp) (AllReadyH.cons (o := ⟨some 68,_,_,_,_,some (20,false)⟩) rfl (fun K hK => ?_) AllReadyH.nil)
   go_simp
   go_at_call 13; (with_reducible refine (HT1.out _ D4.out).mono ?_); rintro r w5 ⟨rfl,H5⟩
   refine hK.out _ _ trivial (fun _ => ?_)
   clear hK K
   try simp only [Act.put,List.setIfInBounds_toArray,List.set_cons_zero,List.set_cons_succ]
   refine wpAnyH_ready (rs := [28]) (by kernel_rfl) (by simp) (AllReadyH.cons (o := ⟨some 72,_,_,_,_,some (20,false)⟩) rfl (fun K hK => ?_) AllReadyH.nil)
   go_simp
   go_at_call 21; (with_reducible refine (HT2.out _ H5.out).mono ?_); rintro r w6 ⟨g6,s6,cg6,cs6,rfl,q1,q2,HTS6⟩
   refine hK.out _ _ trivial (fun _ => ?_)
   clear hK K
   try simp only [Act.put,List.setIfInBounds_toArray,List.set_cons_zero,List.set_cons_succ]
   refine wpAnyH_take (i := 29) (oi := ⟨some 73,_,_,_,_,some (20,false)⟩) (v := ?_) rfl (by kernel_rfl) (by kernel_rfl) (by kernel_rfl) (fun _ _ _ h => h) (Or.inl ⟨by rfl,?_⟩) trivial ?_
   rotate_left
   ·intro W hSw; (try dsimp only at hSw); go_simp; try with_reducible rfl
   try simp only [Act.put,List.setIfInBounds_toArray,List.set_cons_zero,List.set_cons_succ]
   refine wpAnyH_take (i := 30) (oi := ⟨some 74,_,_,_,_,none⟩) (v := ?_) rfl (by kernel_rfl) (by kernel_rfl) (by kernel_rfl) (fun _ _ _ h => h) (Or.inl ⟨by rfl,?_⟩) trivial ?_
   rotate_left
   ·intro W hSw; (try dsimp only at hSw); go_simp; try with_reducible rfl
   try simp only [Act.put,List.setIfInBounds_toArray,List.set_cons_zero,List.set_cons_succ]
   refine wpAnyH_take (i := 31) (oi := ⟨some 75,_,_,_,_,none⟩) (v := ?_) rfl (by kernel_rfl) (by kernel_rfl) (by kernel_rfl) (fun _ _ _ h => h) (Or.inl ⟨by rfl,?_⟩) trivial ?_
   rotate_left
   ·intro W hSw; (try dsimp only at hSw); go_simp; try with_reducible rfl
   try simp only [Act.put,List.setIfInBounds_toArray,List.set_cons_zero,List.set_cons_succ]
   refine wpAnyH_more (S := fun W => W.cell? ⟨xb,1,none⟩ = some (.slice g6 T2.length cg6) ∧ W.cell? ⟨xb,2,none⟩ = some (.slice s6 S'.length cs6)) (fun _ _ => trivial) _ _ _ _ ?_
   refine wpAnyH_take (i := 32) (oi := ⟨some 76,_,_,_,_,some (31,false)⟩) (v := ?_) rfl (by kernel_rfl) (by kernel_rfl) (by kernel_rfl) (fun _ _ _ h => h) (Or.inl ⟨by rfl,?_⟩) HTS6.out.cells ?_
   rotate_left
   ·intro W hSw; (try dsimp only at hSw); go_simp; try with_reducible rfl
   try simp only [Act.put,List.setIfInBounds_toArray,List.set_cons_zero,List.set_cons_succ]
   refine wpAnyH_take (i := 34) (oi := ⟨some 78,_,_,_,_,some (31,false)⟩) (v := ?_) rfl (by kernel_rfl) (by kernel_rfl) (by kernel_rfl) (fun _ _ _ h => h) (Or.inl ⟨by rfl,?_⟩) HTS6.out.cells ?_
   rotate_left
   ·intro W hSw; (try dsimp only at hSw); go_simp; try with_reducible rfl
   try simp only [Act.put,List.setIfInBounds_toArray,List.set_cons_zero,List.set_cons_succ]
   refine wpAnyH_take (i := 35) (oi := ⟨some 79,_,_,_,_,some (31,false)⟩) (v := ?_) rfl (by kernel_rfl) (by kernel_rfl) (by kernel_rfl) (fun _ _ _ h => h) (Or.inl ⟨by rfl,?_⟩) HTS6.out.cells ?_
   rotate_left
   ·intro W hSw; (try dsimp only at hSw); go_simp; try with_reducible rfl
   try simp only [Act.put,List.setIfInBounds_toArray,List.set_cons_zero,List.set_cons_succ]
   refine wpAnyH_take (i := 36) (oi := ⟨some 80,_,_,_,_,some (31,false)⟩) (v := ?_) rfl (by kernel_rfl) (by kernel_rfl) (by kernel_rfl) (fun _ _ _ h => h) (Or.inl ⟨by rfl,?_⟩) HTS6.out.cells ?_
   rotate_left
   ·intro W hSw; (try dsimp only at hSw); go_simp; try with_reducible rfl
   try simp only [Act.put,List.setIfInBounds_toArray,List.set_cons_zero,List.set_cons_succ]
   refine wpAnyH_take (i := 37) (oi := ⟨some 81,_,_,_,_,some (31,false)⟩) (v := ?_) rfl (by kernel_rfl) (by kernel_rfl) (by kernel_rfl) (fun _ _ _ h => h) (Or.inl ⟨by rfl,?_⟩) HTS6.out.cells ?_
   rotate_left
   ·intro W hSw; (try dsimp only at hSw); go_simp; try with_reducible rfl
   try simp only [Act.put,List.setIfInBounds_toArray,List.set_cons_zero,List.set_cons_succ]
   refine wpAnyH_ready (rs := [33]) (by kernel_rfl) (by simp) (AllReadyH.cons (o := ⟨some 77,_,_,_,_,some (31,false)⟩) rfl (fun K hK => ?_) AllReadyH.nil)
   go_simp
   go_at_call 11; (with_reducible refine (HTR.out _ _ _ _ _ HTS6.out).mono ?_); rintro r w7 ⟨a7,p7,rfl,k7,b7⟩; have HTS7 := Lib.hid (TSt.below HTS6.out b7); obtain ⟨q3,q4⟩ := HTS7.out.cells; have K7 := Lib.hid k7; clear k7
   refine hK.out _ _ HTS7.out.cells (fun _ => ?_)
   clear hK K
   try simp only [Act.put,List.setIfInBounds_toArray,List.set_cons_zero,List.set_cons_succ]
   refine wpAnyH_ready (rs := [38]) (by kernel_rfl) (by simp) (AllReadyH.cons (o := ⟨some 82,_,_,_,_,some (31,false)⟩) rfl (fun K hK => ?_) AllReadyH.nil)
   go_simp
   go_at_call 22; (with_reducible refine (HSR.out _ _ _ _ _ HTS7.out).mono ?_); rintro r w8 ⟨a8,p8,rfl,k8,b8⟩; have HTS8 := Lib.hid (TSt.below HTS7.out b8); obtain ⟨q5,q6⟩ := HTS8.out.cells; have K7b := Lib.hid (K7.out.below b8); have K8 := Lib.hid k8; clear k8
   refine hK.out _ _ HTS8.out.cells (fun _ => ?_)
   clear hK K
   try simp only [Act.put,List.setIfInBounds_toArray,List.set_cons_zero,List.set_cons_succ]
   refine wpAnyH_ready (rs := [39]) (by kernel_rfl) (by simp) (AllReadyH.cons (o := ⟨some 83,_,_,_,_,some (31,false)⟩) rfl (fun K hK => ?_) AllReadyH.nil)
   go_simp
   go_at_call 14; (with_reducible refine (HST.out _ _ _ _ _ K7b.out K8.out (HLN.out _ _ _ _ _ HTS8.out).1).mono ?_); rintro r w9 ⟨rfl,b9⟩; have HTS9 := Lib.hid (TSt.below HTS8.out b9); obtain ⟨q7,q8⟩ := HTS9.out.cells
   refine hK.out _ _ HTS9.out.cells (fun _ => ?_)
   clear hK K
   try simp only [Act.put,List.setIfInBounds_toArray,List.set_cons_zero,List.set_cons_succ]
   refine wpAnyH_take (i := 40) (oi := ⟨some 84,_,_,_,_,some (31,false)⟩) (v := ?_) rfl (by kernel_rfl) (by kernel_rfl) (by kernel_rfl) (fun _ _ _ h => h) (Or.inl ⟨by rfl,?_⟩) HTS9.out.cells ?_
   rotate_left
   ·intro W hSw; (try dsimp only at hSw); go_simp; try with_reducible rfl
   try simp only [Act.put,List.setIfInBounds_toArray,List.set_cons_zero,List.set_cons_succ]
   refine wpAnyH_take (i := 41) (oi := ⟨some 85,_,_,_,_,none⟩) (v := ?_) rfl (by kernel_rfl) (by kernel_rfl) (by kernel_rfl) (fun _ _ _ h => h) (Or.inl ⟨by rfl,?_⟩) HTS9.out.cells ?_
   rotate_left
   ·intro W hSw; (try dsimp only at hSw); go_simp; try with_reducible rfl
   try simp only [Act.put,List.setIfInBounds_toArray,List.set_cons_zero,List.set_cons_succ]
   refine wpAnyH_take (i := 42) (oi := ⟨some 86,_,_,_,_,none⟩) (v := ?_) rfl (by kernel_rfl) (by kernel_rfl) (by kernel_rfl) (fun _ _ _ h => h) (Or.inl ⟨by rfl,?_⟩) HTS9.out.cells ?_
   rotate_left
   ·intro W hSw; (try dsimp only at hSw); go_simp; try with_reducible rfl
   try simp only [Act.put,List.setIfInBounds_toArray,List.set_cons_zero,List.set_cons_succ]
   refine wpAnyH_take (i := 43) (oi := ⟨some 87,_,_,_,_,some (42,false)⟩) (v := ?_) rfl (by kernel_rfl) (by kernel_rfl) (by kernel_rfl) (fun _ _ _ h => h) (Or.inl ⟨by rfl,?_⟩) HTS9.out.cells ?_
   rotate_left
   ·intro W hSw; (try dsimp only at hSw); go_simp; try with_reducible rfl
   try simp only [Act.put,List.setIfInBounds_toArray,List.set_cons_zero,List.set_cons_succ]
   refine wpAnyH_take (i := 45) (oi := ⟨some 89,_,_,_,_,some (42,false)⟩) (v := ?_) rfl (by kernel_rfl) (by kernel_rfl) (by kernel_rfl) (fun _ _ _ h => h) (Or.inl ⟨by rfl,?_⟩) HTS9.out.cells ?_
   rotate_left
   ·intro W hSw; (try dsimp only at hSw); go_simp; try with_reducible rfl
   try simp only [Act.put,List.setIfInBounds_toArray,List.set_cons_zero,List.set_cons_succ]
   refine wpAnyH_take (i := 46) (oi := ⟨some 90,_,_,_,_,some (42,false)⟩) (v := ?_) rfl (by kernel_rfl) (by kernel_rfl) (by kernel_rfl) (fun _ _ _ h => h) (Or.inl ⟨by rfl,?_⟩) HTS9.out.cells ?_
   rotate_left
   ·intro W hSw; (try dsimp only at hSw); go_simp; try with_reducible rfl
   try simp only [Act.put,List.setIfInBounds_toArray,List.set_cons_zero,List.set_cons_succ]
   refine wpAnyH_take (i := 47) (oi := ⟨some 91,_,_,_,_,some (42,false)⟩) (v := ?_) rfl (by kernel_rfl) (by kernel_rfl) (by kernel_rfl) (fun _ _ _ h => h) (Or.inl ⟨by rfl,?_⟩) HTS9.out.cells ?_
   rotate_left
   ·intro W hSw; (try dsimp only at hSw); go_simp; try with_reducible rfl
   try simp only [Act.put,List.setIfInBounds_toArray,List.set_cons_zero,List.set_cons_succ]
   refine wpAnyH_take (i := 48) (oi := ⟨some 92,_,_,_,_,some (42,false)⟩) (v := ?_) rfl (by kernel_rfl) (by kernel_rfl) (by kernel_rfl) (fun _ _ _ h => h) (Or.inl ⟨by rfl,?_⟩) HTS9.out.cells ?_
   rotate_left
   ·intro W hSw; (try dsimp only at hSw); go_simp; try with_reducible rfl
   try simp only [Act.put,List.setIfInBounds_toArray,List.set_cons_zero,List.set_cons_succ]
   refine wpAnyH_ready (rs := [44]) (by kernel_rfl) (by simp) (AllReadyH.cons (o := ⟨some 88,_,_,_,_,some (42,false)⟩) rfl (fun K hK => ?_) AllReadyH.nil)
   go_simp
   go_at_call 24; (with_reducible refine (HFX.out _ _ _ _ _ HTS9.out).mono ?_); rintro r w10 ⟨a10,p10,rfl,k10,b10⟩; have HTS10 := Lib.hid (TSt.below HTS9.out b10); obtain ⟨q9,q10⟩ := HTS10.out.cells; have K10 := Lib.hid k10; clear k10
   refine hK.out _ _ HTS10.out.cells (fun _ => ?_)
   clear hK K
   try simp only [Act.put,List.setIfInBounds_toArray,List.set_cons_zero,List.set_cons_succ]
   refine wpAnyH_ready (rs := [49]) (by kernel_rfl) (by simp) (AllReadyH.cons (o := ⟨some 93,_,_,_,_,some (42,false)⟩) rfl (fun K hK => ?_) AllReadyH.nil)
   go_simp
   go_at_call 23; (with_reducible refine (HSS.out _ _ _ _ _ K10.out HTS10.out.segs (HLN.out _ _ _ _ _ HTS10.out).2).mono ?_); rintro r w11 ⟨rfl,b11⟩; have HTS11 := Lib.hid (TSt.below HTS10.out b11)
   refine hK.out _ _ HTS11.out.cells (fun _ => ?_)
   clear hK K
   try simp only [Act.put,List.setIfInBounds_toArray,List.set_cons_zero,List.set_cons_succ]
   refine wpAnyH_take (i := 50) (oi := ⟨some 94,_,_,_,_,some (42,false)⟩) (v := ?_) rfl (by kernel_rfl) (by kernel_rfl) (by kernel_rfl) (fun _ _ _ h => h) (Or.inl ⟨by rfl,?_⟩) HTS11.out.cells ?_
   rotate_left
   ·intro W hSw; (try dsimp only at hSw); go_simp; try with_reducible rfl
   try simp only [Act.put,List.setIfInBounds_toArray,List.set_cons_zero,List.set_cons_succ]
   refine wpAnyH_take (i := 51) (oi := ⟨some 95,_,_,_,_,none⟩) (v := ?_) rfl (by kernel_rfl) (by kernel_rfl) (by kernel_rfl) (fun _ _ _ h => h) (Or.inl ⟨by rfl,?_⟩) HTS11.out.cells ?_
   rotate_left
   ·intro W hSw; (try dsimp only at hSw); go_simp; try with_reducible rfl
   try simp only [Act.put,List.setIfInBounds_toArray,List.set_cons_zero,List.set_cons_succ]
   refine wpAnyH_done (by kernel_rfl) ?_ _
   all_goals
    have hcA := HCA.out ()
    have hcB := HCB.out ()
    clear q1 q2 q3 q4 q5 q6 q7 q8 q9 q10
    go_wp2
    go_roundw
    case rel => exact ⟨i + 1,by omega,by (try rw [hw1]); rfl,by rw [show 1000 + 12 * (i + 1) = 1000 + 12 * i + 12 by omega,show 200 + 2 * (i + 1) = 200 + 2 * i + 2 by omega]; exact HTS11.out.bot⟩
    case measure => (try rw [hw1]); simp only [intOf]; omega
  ·have e : i = L.length := by omega
   subst e
   have hz : ¬(L.length : Int) < (L.length : Int) := by omega
   go_wp2_with (go_at_call 8; (with_reducible refine (HWK.out _).mono ?_); rintro r w4 ⟨rfl,hb4⟩)
   go_ret
   exact ⟨rfl,bseq HWB.out hb4⟩
end Go.Proofs.YtbagikgpgdlkcaaGreatDoor
