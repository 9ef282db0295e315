/- Part of the proof. No conditions. -/
import Derived.Test.YtbagikgpgdlkcaaGreatDoorZd
set_option linter.all false
set_option maxHeartbeats 8000000
set_option maxRecDepth 100000
namespace Go.Proofs.YtbagikgpgdlkcaaGreatDoor
open Go.RowKit
def vG (x : Int × Int × Int) : Value := .agg #[.int .i64 x.1,.int .i64 x.2.1,.int .i64 x.2.2]
theorem segKey_walk (x : Int × Int × Int) (w : World) :
  Calls Tryz.prog 58 #[vG x] w fun e w' => e = .returned (vT (x.1,x.2.1,0)) ∧ w' = ((w.alloc (.cells #[.int .i64 x.1,.int .i64 x.2.1,.int .i64 x.2.2] 90)).alloc (.cells #[.int .i64 x.1,.int .i64 x.2.1,.int .i64 0] 60)) := by
 obtain ⟨a,b,c⟩ := x
 unfold vG vT
 go_enter Tryz.func58,Tryz.ntmps58
 go_wp2
 go_returns
 exact ⟨rfl,rfl⟩
def CmpG (w : World) (kb : Nat) (k : Value) (b c : Nat) (x y : Int × Int × Int) : Prop := w.cell? ⟨kb,0,none⟩ = some k ∧ w.cell? ⟨b,0,none⟩ = some (.int .i64 x.1) ∧ w.cell? ⟨b,1,none⟩ = some (.int .i64 x.2.1) ∧ w.cell? ⟨b,2,none⟩ = some (.int .i64 x.2.2)
 ∧ w.cell? ⟨c,0,none⟩ = some (.int .i64 y.1) ∧ w.cell? ⟨c,1,none⟩ = some (.int .i64 y.2.1) ∧ w.cell? ⟨c,2,none⟩ = some (.int .i64 y.2.2)
theorem CmpG.drew {w : World} {kb : Nat} {k : Value} {b c : Nat} {x y : Int × Int × Int} (h : CmpG w kb k b c x y) : CmpG w.drew kb k b c x y := h
theorem CmpG.alloc {w : World} {kb : Nat} {k : Value} {b c : Nat} {x y : Int × Int × Int} (h : CmpG w kb k b c x y) {o : Obj} : CmpG (w.alloc o) kb k b c x y :=
 ⟨Lib.cell?_alloc_some _ h.1,Lib.cell?_alloc_some _ h.2.1,Lib.cell?_alloc_some _ h.2.2.1,Lib.cell?_alloc_some _ h.2.2.2.1,Lib.cell?_alloc_some _ h.2.2.2.2.1,Lib.cell?_alloc_some _ h.2.2.2.2.2.1,Lib.cell?_alloc_some _ h.2.2.2.2.2.2⟩
theorem segCmp_walk (kb : Nat) (x y : Int × Int × Int) (w : World) (hk : w.cell? ⟨kb,0,none⟩ = some (.func (.func 58) #[] #[])) :
  Calls Tryz.prog 92 #[vG x,vG y,.pointer (some ⟨kb,0,none⟩)] w fun e w' => e = .returned (.int .i64 (cmpT (x.1,x.2.1,0) (y.1,y.2.1,0))) ∧ Grew w w' := by
 have HX := Lib.hid (segKey_walk x)
 have HY := Lib.hid (segKey_walk y)
 have HC := Lib.hid (fun p q => compare_walk p q (x.1,x.2.1,0) (y.1,y.2.1,0))
 have hkl := World.block_lt_of_cell? _ _ hk
 obtain ⟨x0,x1,x2⟩ := x
 obtain ⟨y0,y1,y2⟩ := y
 unfold vG vT at *
 dsimp only at HX HY HC
 generalize cmpT (x0,x1,0) (y0,y1,0) = z at *
 have hB : CmpG ((w.alloc (.cells #[.int .i64 x0,.int .i64 x1,.int .i64 x2] 90)).alloc (.cells #[.int .i64 y0,.int .i64 y1,.int .i64 y2] 90)) kb (.func (.func 58) #[] #[]) w.heap.size (w.heap.size + 1) (x0,x1,x2) (y0,y1,y2) := by
  refine ⟨Lib.cell?_alloc_some _ (Lib.cell?_alloc_some _ hk),?_,?_,?_,?_,?_,?_⟩ <;> simp
 go_enter Tryz.func92,Tryz.ntmps92
 have HB := Lib.hid hB
 clear hB hk
 go_upto_region 1 with fail
 go_cut [6,7] from 8 to 13 (fun s6 s7 wx => ∃ p q : Nat,s6 = .pointer (some ⟨p,0,none⟩) ∧ s7 = .pointer (some ⟨q,0,none⟩) ∧ Hid (CmpC wx p q (x0,x1,0) (y0,y1,0)) ∧ Hid (Grew w wx))
 case first =>
  go_region_held3 (fun w' => w'.cell? ⟨kb,0,none⟩ = some (.func (.func 58) #[] #[]) ∧ w'.cell? ⟨w.heap.size,0,none⟩ = some (.int .i64 x0) ∧ w'.cell? ⟨w.heap.size,1,none⟩ = some (.int .i64 x1) ∧ w'.cell? ⟨w.heap.size,2,none⟩ = some (.int .i64 x2)
    ∧ w'.cell? ⟨w.heap.size + 1,0,none⟩ = some (.int .i64 y0) ∧ w'.cell? ⟨w.heap.size + 1,1,none⟩ = some (.int .i64 y1) ∧ w'.cell? ⟨w.heap.size + 1,2,none⟩ = some (.int .i64 y2))
   (first | (change CmpG _ kb (.func (.func 58) #[] #[]) w.heap.size (w.heap.size + 1) (x0,x1,x2) (y0,y1,y2); repeat (first | with_reducible exact HB.out | with_reducible apply CmpG.drew | with_reducible apply CmpG.alloc)))
   (first
    |(go_at_call 58; (first | (with_reducible refine (HX.out _).mono ?_) | (with_reducible refine (HY.out _).mono ?_)); rintro r w1 ⟨rfl,rfl⟩))
  all_goals
   go_wp2_with fail
   go_meet
   refine ⟨_,_,rfl,rfl,?_,?_⟩
   ·refine ⟨?_,?_,?_,?_,?_,?_⟩ <;> (repeat (first | (refine (World.cell?_alloc_at _ _ _ _ ?_).trans ?_; (focus (simp; done)); rfl) | with_reducible apply Lib.cell?_alloc_some | with_reducible apply cellDrew))
   ·unfold Hid
    repeat (first | with_reducible exact Grew.refl _ | with_reducible apply Grew.drewN | with_reducible apply Grew.drew | with_reducible apply Grew.alloc)
 case rest =>
  obtain ⟨p,q,rfl,rfl,HCC,HG⟩ := hcut
  clear HX HY HB
  obtain ⟨p0,p1,p2,q0,q1,q2⟩ := HCC.out
  have HCC2 := Lib.hid (HC.out p q wc.drew p0 p1 p2 q0 q1 q2)
  clear p0 p1 p2 q0 q1 q2
  go_wp2
  go_region_held3 (fun w' => w' = wc.drew) (first | rfl | assumption) (first | (go_at_call 86; refine HCC2.out.mono ?_; rintro r w1 ⟨rfl,rfl⟩))
  go_wp2
  go_ret
  exact ⟨rfl,HG.out.drew⟩
open Go.Maps Go.WideMaps Go.Sort
def ltG (x y : Seg3) : Prop := ltP (x.1,x.2.1) (y.1,y.2.1)
def cmpG (x y : Seg3) : Int := cmpT (x.1,x.2.1,0) (y.1,y.2.1,0)
theorem encS_len (x : Seg3) : (encS x).length = 3 := rfl
theorem ltOf_cmpG (x y : Seg3) : ltOf cmpG x y = true ↔ ltG x y := by
 have := ltOf_cmpT (x.1,x.2.1,0) (y.1,y.2.1,0)
 have e : ltOf cmpG x y = ltOf cmpT (x.1,x.2.1,0) (y.1,y.2.1,0) := rfl
 rw [e,this]
 unfold ltT ltG ltP
 dsimp only
 omega
theorem ltOf_cmpG' (x y : Seg3) : ltOf cmpG x y = false ↔ ¬ltG x y := by
 rw [← ltOf_cmpG]; simp
theorem swoG : SWO (ltOf cmpG) where
 irrefl x := (ltOf_cmpG' x x).2 (ltP_irr _)
 trans x y z h1 h2 := (ltOf_cmpG x z).2 (ltP_trans _ _ _ ((ltOf_cmpG x y).1 h1) ((ltOf_cmpG y z).1 h2))
 ntrans x y z h1 h2 := by
  rw [ltOf_cmpG'] at *
  unfold ltG ltP at *
  dsimp only at *
  omega
theorem enters_segCmp : ∀ args w,(callFunc 92 args).run Tryz.prog w = .ok (.enter 92 args) w := enters_of Tryz.func92 (by kernel_rfl) rfl
theorem sortFuncSeg {base : Nat} (l : List Seg3) (v : Value) (kb : Nat) (w : World) (h : w.ownsRow base 90 3 v l.length (cellsK encS l)) (hk : w.cell? ⟨kb,0,none⟩ = some (.func (.func 58) #[] #[])) (hne : v.ownBlock ≠ some kb) (hl : l.length ≤ 4611686018427387900) :
  Calls Tryz.prog 91 #[v,.func (.func 92) #[] #[.pointer (some ⟨kb,0,none⟩)]] w fun r w' =>
   r = .returned (.tuple #[]) ∧ ∃ l' : List Seg3,l'.Perm l ∧ l'.Pairwise (fun x y => ¬ltG y x) ∧ w'.ownsRow base 90 3 v l.length (cellsK encS l') ∧ w.grownBy w' v.ownBlock := by
 rcases h.2 with ⟨rfl,h0⟩ | ⟨g,cap,cur,rfl,hb,hh,hn,hm,hs,ht⟩
 ·have hnil : l = [] := List.length_eq_zero_iff.1 h0
  subst hnil
  have hc := AnyF.slices_SortFunc_none (P := Tryz.prog) Tryz.sortSeg none 0 (.func (.func 92) #[] #[.pointer (some ⟨kb,0,none⟩)]) w
  change Calls Tryz.prog 91 _ _ _ at hc
  refine hc.mono ?_
  rintro r w' ⟨rfl,rfl⟩
  exact ⟨rfl,[],List.Perm.refl _,List.Pairwise.nil,h,⟨rfl,rfl,rfl,Nat.le_refl _,fun _ _ _ => rfl⟩⟩
 ·have hkb : kb ≠ g := fun e => hne (by rw [e]; rfl)
  have hkl := World.block_lt_of_cell? _ _ hk
  have hgl : g < w.heap.size := (Array.getElem?_eq_some_iff.1 hh).1
  have hcmp : CmpLays Tryz.prog 92 #[.pointer (some ⟨kb,0,none⟩)] encS 3 cmpG g 0 l.toArray.size w := by
   intro m os dk _ x y
   refine (segCmp_walk kb x y _ ?_).mono ?_
   ·unfold sortWorldK
    rw [cell?_grow _ _ _ (by show kb < (putRowK _ _ _ _ _ _).heap.size; rw [size_putRowK]; exact hkl),cell?_putRowK_other _ _ _ _ _ _ _ hkb]
    exact hk
   ·rintro r w' ⟨he,q,os', hw⟩
    exact ⟨he,q,os', hw⟩
  have hcon := AnyQ.slices_SortFunc (P := Tryz.prog) Tryz.sortSeg 3 Tryz.isAgg90 Tryz.sizeOf90 encS encS_len encS_one cmpG swoG 92 #[.pointer (some ⟨kb,0,none⟩)] g 0 cap l.toArray w enters_segCmp hcmp (owns_holdsK encS_len h) hgl (by rw [List.size_toArray]; omega)
  change Calls Tryz.prog 91 _ _ _ at hcon
  rw [List.size_toArray] at hcon
  refine hcon.mono ?_
  rintro r w' ⟨rfl,d,n,os,hp,hsd,rfl⟩
  have hds : d.size = l.length := by have := hp.1; simpa using this
  obtain ⟨o1,o2⟩ := sort_back encS_len h d n os hds
  refine ⟨rfl,d.toList,permIn_list hp,?_,o1,o2⟩
  refine List.Pairwise.imp ?_ (sortedIn_list hds hsd)
  intro x y hxy
  exact fun e => hxy ((ltOf_cmpG y x).2 e)
theorem sortedSeg_walk {base : Nat} (l : List Seg3) (v : Value) (w : World) (h : w.ownsRow base 90 3 v l.length (cellsK encS l)) (hl : l.length ≤ 4611686018427387900) :
  Calls Tryz.prog 57 #[v,.func (.func 58) #[] #[]] w fun r w' =>
   r = .returned v ∧ ∃ l' : List Seg3,l'.Perm l ∧ l'.Pairwise (fun x y => ¬ltG y x) ∧ w'.ownsRow base 90 3 v l.length (cellsK encS l') ∧ w.grownBy w' v.ownBlock := by
 have hc := sortFuncSeg l v w.heap.size (w.alloc (.cells #[.func (.func 58) #[] #[]] 98)) (h.alloc _) (by rw [World.cell?_alloc_at _ _ _ _ rfl]; rfl) (fun e => by have := (h.lt _ e).2; omega) hl
 have HC := Lib.hid hc
 have HS : Hid (∀ w', (w.alloc (.cells #[.func (.func 58) #[] #[]] 98)).grownBy w' v.ownBlock → w.grownBy w' v.ownBlock) := fun w' hg =>
  ⟨hg.os,hg.tape,hg.output,Nat.le_trans (by simp) hg.size,fun i hi hne => (hg.block i (by simp; omega) hne).trans (((Below.refl _ w).alloc (Nat.le_refl _) _).block i hi)⟩
 clear hc h
 go_enter Tryz.func57,Tryz.ntmps57
 go_wp2_with (go_at_call 91; refine HC.out.mono ?_; rintro r w1 ⟨rfl,l', h1,h2,h3,h4⟩)
 go_ret
 exact ⟨rfl,l', h1,h2,h3,HS.out _ h4⟩
end Go.Proofs.YtbagikgpgdlkcaaGreatDoor
namespace Go.Proofs.YtbagikgpgdlkcaaGreatDoor
open Go.RowKit Go.Maps Go.WideMaps
theorem infoSegF : (Tryz.prog.info? 90).map (fun i => (i.zero,i.size,i.bytes)) = some (some (.agg #[.int .i64 0,.int .i64 0,.int .i64 0]),3,24) := by kernel_rfl
structure FixT (fx : Int → Int → Option Int) (S : List Seg3) : Prop where
 srt : S.Pairwise ltG
 mem : ∀ y,y ∈ S ↔ fx y.1 y.2.1 = some y.2.2
def fixG (fx : Int → Int → Option Int) (x : Int × Int) : Option Seg3 := (fx x.1 x.2).map fun c => (x.1,x.2,c)
theorem fixG_inj {fx : Int → Int → Option Int} (x x' : Int × Int) (y : Seg3) (_ : fx x.1 x.2 ≠ none) (_ : fx x'.1 x'.2 ≠ none) (h1 : fixG fx x = some y) (h2 : fixG fx x' = some y) : x = x' := by
 unfold fixG at h1 h2
 rw [Option.map_eq_some_iff] at h1 h2
 obtain ⟨c,_,e1⟩ := h1
 obtain ⟨d,_,e2⟩ := h2
 rw [← e2,Prod.mk.injEq,Prod.mk.injEq] at e1
 exact Prod.ext e1.1 e1.2.1
theorem fixG_mem {fx : Int → Int → Option Int} {S : List Seg3} (h : FixT fx S) (y : Seg3) : (∃ x : Int × Int,fx x.1 x.2 ≠ none ∧ fixG fx x = some y) ↔ y ∈ S := by
 rw [h.mem]
 unfold fixG
 constructor
 ·rintro ⟨x,_,h2⟩
  obtain ⟨c,e1,rfl⟩ := Option.map_eq_some_iff.1 h2
  exact e1
 ·intro e
  exact ⟨(y.1,y.2.1),by rw [e]; simp,by rw [e]; rfl⟩
theorem ltG_irr (x : Seg3) : ¬ltG x x := ltP_irr _
theorem ltG_trans (x y z : Seg3) (h1 : ltG x y) (h2 : ltG y z) : ltG x z := ltP_trans _ _ _ h1 h2
theorem fix_sorted {fx : Int → Int → Option Int} {S l : List Seg3} (h : FixT fx S) (hm : ∀ y,y ∈ l ↔ y ∈ S) (hn : l.Nodup) (hs : l.Pairwise fun x y => ¬ltG y x) : l = S := by
 refine pw_unique ltG_irr ltG_trans _ _ ?_ h.srt hm
 have h2 : l.Pairwise fun x y => x ≠ y ∧ ¬ltG y x := List.pairwise_and_iff.2 ⟨hn,hs⟩
 refine List.Pairwise.imp_of_mem ?_ h2
 intro x y hx hy ⟨hne,hlt⟩
 apply Classical.byContradiction
 intro hno
 have e := ltP_tot (x.1,x.2.1) (y.1,y.2.1) hno hlt
 rw [Prod.mk.injEq] at e
 have ex := (h.mem x).1 ((hm x).1 hx)
 have ey := (h.mem y).1 ((hm y).1 hy)
 rw [e.1,e.2,ey,Option.some.injEq] at ex
 exact hne (Prod.ext e.1 (Prod.ext e.2 ex.symm))
theorem fix_short {fx : Int → Int → Option Int} {S L : List Seg3} {lf : Value → Bool} (h : FixT fx S) (hg : GotG fx (fixG fx) lf L) : L.length ≤ S.length := by
 refine nodup_len L S hg.1 fun y hy => ?_
 obtain ⟨x,a,b,_⟩ := (hg.2 y).1 hy
 exact (fixG_mem h y).1 ⟨x,a,b⟩
theorem fixes_walk {w : World} {mb n : Nat} {M : MeshM} {F : Nat → Prop} (h : MeshAt w mb n M F) {S : List Seg3} (hf : FixT M.fx S) (hl : S.length ≤ 1000000) :
  Calls Tryz.prog 24 #[.pointer (some ⟨mb,0,none⟩)] w fun r w' => ∃ v,r = .returned v ∧ w'.ownsRow (w.heap.size + 1) 90 3 v S.length (cellsK encS S) ∧ Below w.heap.size w w' := by
 obtain ⟨ba,bs,bf,pv,sv,h⟩ := h
 have c4 := h.c4
 have HF := Lib.hid h.fxm
 have HBA := Lib.hid (h.flt bf h.fbf)
 have HT := Lib.hid hf
 have HL := Lib.hid hl
 clear h hf hl
 obtain ⟨i0,hi,hz0,hz1,hz2⟩ := info_parts infoSegF
 go_enter Tryz.func24,Tryz.ntmps24
 go_wp2_with (at_range; refine wp_range _ rfl _ 76 rfl 80 3 edgeLaw Tryz.underlying76 bf n _ rfl HF.out ?_; intro w0 hrg0 hg0 hs0)
 go_frame
 have HR0 := Lib.hid hrg0
 have HG0 := Lib.hid hg0
 have HS0 := Lib.hid hs0
 clear hrg0 hg0 hs0
 go_loopw [3] (fun s3 wr => ∃ (L : List Seg3) (lf : Value → Bool) (cnt : Nat),Hid (FRange Tryz.prog wr 80 bf w.heap.size n (edgeV M.fx) lf cnt) ∧ Hid (wr.ownsRow (w.heap.size + 1) 90 3 s3 L.length (cellsK encS L)) ∧ Hid (GotG M.fx (fixG M.fx) lf L) ∧ Hid (Below w.heap.size w wr)) (fun _ wr => wr.rangeLeft bf w.heap.size)
 case atStart =>
  refine ⟨[],_,_,HR0.out,World.ownsRow_nil _ _ _ _,GotG.start (fun a b hab => ?_),?_⟩
  ·rw [edgeV_isSome]; exact Option.isSome_iff_ne_none.2 hab
  ·exact (Below.refl _ w).grown HG0.out (Nat.le_refl _) (fun j hj => by cases hj)
 case round =>
  obtain ⟨L,lf,cnt,HR,HO,HGO,HB⟩ := hrel
  go_wp2_with (first | (at_next; refine wp_next _ rfl _ rfl 80 edgeLaw (fun x : Int × Int => kE x.1 x.2) vI bf w.heap.size n (edgeV M.fx) (fun key h => edgeV_ne h) (fun key v h => edgeV_val h) lf cnt rfl HR.out ?_ ?_) | go_in)
  ·intro hd
   have HM : Hid (∀ y,y ∈ L ↔ y ∈ S) := fun y => (HGO.out.done hd y).trans (fixG_mem HT.out y)
   have HND := Lib.hid HGO.out.1
   have HLS := Lib.hid (fix_short HT.out HGO.out)
   clear hd
   have HSO := Lib.hid (sortedSeg_walk L u3 wr HO.out (by have := HLS.out; have := HL.out; omega))
   go_wp2_with (go_at_call 57; refine HSO.out.mono ?_; rintro r w2 ⟨rfl,l', h1,h2,h3,h4⟩)
   go_ret
   have e : l' = S := fix_sorted HT.out (fun y => h1.mem_iff.trans (HM.out y)) (h1.nodup_iff.2 HND.out) h2
   have el : L.length = S.length := by rw [← e,h1.length_eq]
   refine ⟨_,rfl,?_,HB.out.grown h4 HB.out.size (fun j hj => by have := (HO.out.lt _ hj).1; omega)⟩
   rw [← el,← e]
   exact h3
  ·intro a b c w1 cnt1 lf1 hlx hfx hl1 hl2 hrg1 hlt1 hg1 hs1 hen
   have HX1 := Lib.hid (edgeV_some hfx)
   have HRG := Lib.hid hrg1
   have HG1 := Lib.hid hg1
   have HLT : Hid (w1.rangeLeft bf w.heap.size < wr.rangeLeft bf w.heap.size) := by unfold Hid; rw [hrg1.left_eq,HR.out.left_eq]; exact hlt1
   have HO1 : Hid (w1.ownsRow (w.heap.size + 1) 90 3 u3 L.length (cellsK encS L)) := HO.out.kept HG1.out (by
    cases hv : u3.ownBlock with
    | none => exact .inl rfl
    | some g => right; intro e; cases e; have := (HO.out.lt _ hv).1; omega)
   have HLX := Lib.hid hlx
   have HL1 := Lib.hid hl1
   have HL2 := Lib.hid hl2
   clear hlx hfx hl1 hl2 hrg1 hlt1 hg1 hs1
   simp only [kE,vI] at hen
   have HLEN : Hid (L.length ≤ 1000000) := by have := fix_short HT.out HGO.out; have := HL.out; unfold Hid; omega
   have HGA : Hid (GotG M.fx (fixG M.fx) lf1 (L ++ [(a,b,c)])) := HGO.out.add fixG_inj (x := (a,b)) (by dsimp only; rw [HX1.out]; simp) HLX.out (by unfold fixG; dsimp only; rw [HX1.out]; rfl) HL1.out HL2.out
   go_wp2_with (first | (at_builtin; refine wpList_append_own _ rfl _ _ 24 rfl (w.heap.size + 1) 90 i0 (.agg #[.int .i64 0,.int .i64 0,.int .i64 0]) 3 24 Tryz.underlying24 hi hz0 hz1 hz2 rfl (by decide) u3 L.length (cellsK encS L) rfl ((HO1.out.alloc _).alloc _) ⟨w1.heap.size + 1,0,none⟩ 1 1 (encS (a,b,c)) rfl ?qc1 ?qc2 ?qc3 ?qc4 ?qc5 ?qc6 ?_) | go_in)
   case qc1 => rfl
   case qc2 =>
    intro j u hj
    have := cells_new (w1.alloc (.cells #[.int .i64 a,.int .i64 b] 80)) (encS (a,b,c)) 90 j u hj
    simpa [encS] using this
   case qc3 => exact encS_one _
   case qc4 => have := HLEN.out; unfold maxLen; omega
   case qc5 => have := HLEN.out; omega
   case qc6 => have := HB.out.size; have := HG1.out.size; have := (HO1.out); simp; omega
   intro v' w2 hown hgrow hnil
   obtain ⟨f1,f2⟩ := range_round rfl HBA.out (Nat.lt_succ_self _) HB.out HG1.out HRG.out (((Below.refl _ w1).alloc (Nat.le_refl _) _).alloc (by simp) _) HO1.out hgrow
   have HF1 := Lib.hid f1
   have HF2 := Lib.hid f2
   have HOW : Hid (w2.ownsRow (w.heap.size + 1) 90 3 v' (L ++ [(a,b,c)]).length (cellsK encS (L ++ [(a,b,c)]))) := by
    unfold Hid; rw [cellsK_append,cellsK_one,List.length_append]; exact hown
   clear f1 f2 hown hgrow hnil
   go_wp2
   go_roundw
   case rel => exact ⟨L ++ [(a,b,c)],lf1,cnt1,HF1.out,HOW.out,HGA,HF2.out⟩
   case measure => rw [HF1.out.left_eq,← HRG.out.left_eq]; exact HLT.out
theorem fixes_mb {w : World} {mb n : Nat} {M : MeshM} {F : Nat → Prop} (h : MeshAt w mb n M F) {S : List Seg3} (hf : FixT M.fx S) (hl : S.length ≤ 1000000) :
  Calls Tryz.prog 24 #[.pointer (some ⟨mb,0,none⟩)] w fun r w' => ∃ ad cap,r = .returned (.slice ad S.length cap) ∧ KCells encS w' ad S ∧ Below w.heap.size w w' := by
 refine (fixes_walk h hf hl).mono ?_
 rintro r w' ⟨v,rfl,ho,hb⟩
 obtain ⟨ad,cap,rfl,hc,hg⟩ := owns_kcells ho
 exact ⟨ad,cap,rfl,hc,hb⟩
open Tvf
def ownG (t : Tri3) : Tri3 := if t.1 ≤ t.2.1 ∧ t.1 ≤ t.2.2 then t else if t.2.1 ≤ t.2.2 ∧ t.2.1 ≤ t.1 then (t.2.1,t.2.2,t.1) else (t.2.2,t.1,t.2.1)
def rotG (a b c : Int) : Nat := if a ≤ b ∧ a ≤ c then 0 else if b ≤ c ∧ b ≤ a then 1 else 2
theorem rotG_less {a b c : Int} (h : ¬(a ≤ b ∧ a ≤ c)) : rotG b c a < rotG a b c := by
 unfold rotG
 rw [if_neg h]
 by_cases h1 : b ≤ c ∧ b ≤ a
 ·rw [if_pos h1,if_pos h1]; omega
 ·rw [if_neg h1,if_neg h1,if_pos (by omega)]; omega
theorem ownG_rot {t : Tri3} (h : ¬(t.1 ≤ t.2.1 ∧ t.1 ≤ t.2.2)) : ownG (t.2.1,t.2.2,t.1) = ownG t := by
 obtain ⟨a,b,c⟩ := t
 dsimp only at h
 unfold ownG
 dsimp only
 rw [if_neg h]
 split
 ·rfl
 ·split
  ·rfl
  ·exfalso; omega
theorem ownG_lead {t : Tri3} (h : t.1 ≤ t.2.1 ∧ t.1 ≤ t.2.2) : ownG t = t := by unfold ownG; rw [if_pos h]
theorem ownG_in {t : Tri3} (h : t.1 ≠ t.2.1 ∧ t.2.1 ≠ t.2.2 ∧ t.1 ≠ t.2.2) (a b c : Int) : ownG t = ownG (a,b,c) ↔ inT t a b c := by
 obtain ⟨x,y,z⟩ := t
 dsimp only at h
 unfold ownG inT
 dsimp only
 constructor
 ·intro e
  split at e <;> split at e <;> (try split at e) <;> (try split at e) <;> simp only [Prod.mk.injEq] at e <;> omega
 ·rintro (⟨rfl,rfl,rfl⟩ | ⟨rfl,rfl,rfl⟩ | ⟨rfl,rfl,rfl⟩)
  ·rfl
  ·split <;> split <;> (try split) <;> (try split) <;> simp only [Prod.mk.injEq] <;> omega
  ·split <;> split <;> (try split) <;> (try split) <;> simp only [Prod.mk.injEq] <;> omega
def keepT (a b c : Int) (t : Tri3) : Bool := !decide (ownG t = ownG (a,b,c))
def killL (T : List Tri3) (a b c : Int) : List Tri3 := T.filter (keepT a b c)
theorem apT_mem {t : Tri3} (hne : t.1 ≠ t.2.1 ∧ t.2.1 ≠ t.2.2 ∧ t.1 ≠ t.2.2) (x y z : Int) : apT t x y = some z ↔ inT t x y z := apT_some (a := t.1) (b := t.2.1) (c := t.2.2) hne x y z
theorem apR_mem : ∀ {T : List Tri3},(∀ t,t ∈ T → t.1 ≠ t.2.1 ∧ t.2.1 ≠ t.2.2 ∧ t.1 ≠ t.2.2) → T.Pairwise (fun t u => ∀ x y z z', ¬(inT t x y z ∧ inT u x y z')) → ∀ x y z,apR T x y = some z ↔ ∃ t,t ∈ T ∧ inT t x y z
 | [],_,_,x,y,z => ⟨fun h => (nomatch h),fun ⟨t,h,_⟩ => absurd h (by simp)⟩
 | t :: r,hne,hd,x,y,z => by
  have ih := apR_mem (T := r) (fun u hu => hne u (by simp [hu])) (List.pairwise_cons.1 hd).2 x y z
  have ht := apT_mem (hne t (by simp)) x y
  have e : apR (t :: r) x y = (apT t x y).or (apR r x y) := by
   unfold apR
   rw [List.findSome?_cons]
   cases apT t x y <;> rfl
  rw [e]
  cases h1 : apT t x y with
  | some z1 =>
   have hz1 := (ht z1).1 h1
   rw [Option.some_or]
   constructor
   ·rintro h; cases h; exact ⟨t,by simp,hz1⟩
   ·rintro ⟨u,hu,hi⟩
    rcases List.mem_cons.1 hu with rfl | hu
    ·have := (ht z).2 hi
     rw [h1] at this; exact this
    ·exact absurd ⟨hz1,hi⟩ ((List.pairwise_cons.1 hd).1 u hu x y z1 z)
  | none =>
   rw [Option.none_or,ih]
   constructor
   ·rintro ⟨u,hu,hi⟩; exact ⟨u,by simp [hu],hi⟩
   ·rintro ⟨u,hu,hi⟩
    rcases List.mem_cons.1 hu with rfl | hu
    ·have := (ht z).2 hi
     rw [h1] at this; cases this
    ·exact ⟨u,hu,hi⟩
theorem pw_same {α : Type} {R : α → α → Prop} (sym : ∀ x y,R x y → R y x) : ∀ {l : List α},l.Pairwise R → ∀ x,x ∈ l → ∀ y,y ∈ l → x = y ∨ R x y
 | [],_,x,hx,_,_ => absurd hx (by simp)
 | a :: r,h,x,hx,y,hy => by
  have hc := List.pairwise_cons.1 h
  rcases List.mem_cons.1 hx with e1 | h1
  ·rcases List.mem_cons.1 hy with e2 | h2
   ·exact .inl (e1.trans e2.symm)
   ·rw [e1]; exact .inr (hc.1 y h2)
  ·rcases List.mem_cons.1 hy with e2 | h2
   ·rw [e2]; exact .inr (sym _ _ (hc.1 x h1))
   ·exact pw_same sym hc.2 x h1 y h2
theorem inT_next {t : Tri3} {a b c : Int} (h : inT t a b c) : inT t b c a := by
 rcases h with ⟨h1,h2,h3⟩ | ⟨h1,h2,h3⟩ | ⟨h1,h2,h3⟩
 ·exact .inr (.inl ⟨h2,h3,h1⟩)
 ·exact .inr (.inr ⟨h2,h3,h1⟩)
 ·exact .inl ⟨h2,h3,h1⟩
theorem Twin.only {M : MeshM} {T : List Tri3} (h : Twin M T) {t u : Tri3} (ht : t ∈ T) (hu : u ∈ T) {x y z z' : Int} (h1 : inT t x y z) (h2 : inT u x y z') : t = u :=
 (pw_same (fun t u h x y z z' hh => h x y z' z ⟨hh.2,hh.1⟩) h.dis t ht u hu).resolve_right (fun hn => hn x y z z' ⟨h1,h2⟩)
theorem filter_all_len {α : Type} (p : α → Bool) : ∀ l : List α,(l.filter p).length = l.length ↔ ∀ x,x ∈ l → p x = true
 | [] => by simp
 | x :: r => by
  have ih := filter_all_len p r
  have hl := List.length_filter_le p r
  by_cases hx : p x = true
  ·rw [List.filter_cons,if_pos hx,List.length_cons,List.length_cons]
   constructor
   ·intro h y hy
    rcases List.mem_cons.1 hy with rfl | hy
    ·exact hx
    ·exact ih.1 (by omega) y hy
   ·intro h
    have := ih.2 (fun y hy => h y (by simp [hy]))
    omega
  ·rw [List.filter_cons,if_neg hx,List.length_cons]
   constructor
   ·intro h; omega
   ·intro h; exact absurd (h x (by simp)) hx
theorem Twin.kill {M : MeshM} {T : List Tri3} (h : Twin M T) (a b c : Int) : Twin (killR M a b c) (killL T a b c) ∧ ((killL T a b c).length = T.length ↔ killCode M a b c = 5) := by
 have hmem : ∀ t,t ∈ killL T a b c ↔ t ∈ T ∧ ¬inT t a b c := fun t => by
  unfold killL keepT
  rw [List.mem_filter]
  simp only [Bool.not_eq_true', decide_eq_false_iff_not]
  constructor
  ·rintro ⟨h1,h2⟩; exact ⟨h1,fun e => h2 ((ownG_in (h.ne t h1) a b c).2 e)⟩
  ·rintro ⟨h1,h2⟩; exact ⟨h1,fun e => h2 ((ownG_in (h.ne t h1) a b c).1 e)⟩
 have hin : M.ap a b = some c ↔ ∃ t,t ∈ T ∧ inT t a b c := by rw [h.ap,h.mem]
 have hlen : (killL T a b c).length = T.length ↔ ∀ t,t ∈ T → ¬inT t a b c := by
  unfold killL
  rw [filter_all_len]
  constructor
  ·intro hh t ht hi
   have := hh t ht
   have e := (ownG_in (h.ne t ht) a b c).2 hi
   unfold keepT at this
   rw [e] at this; simp at this
  ·intro hh t ht
   unfold keepT
   rw [decide_eq_false (fun e => hh t ht ((ownG_in (h.ne t ht) a b c).1 e))]; rfl
 constructor
 ·by_cases e : M.ap a b = some c
  ·have hR : killR M a b c = killM M a b c := by unfold killR; rw [if_pos e]
   obtain ⟨t0,ht0,hi0⟩ := hin.1 e
   have hd := h.dis.filter (keepT a b c)
   have hn : ∀ t,t ∈ killL T a b c → t.1 ≠ t.2.1 ∧ t.2.1 ≠ t.2.2 ∧ t.1 ≠ t.2.2 := fun t ht => h.ne t ((hmem t).1 ht).1
   have hm := apR_mem hn hd
   rw [hR]
   refine ⟨killM_sound h.s e,fun x y => ?_,hm,hd,hn⟩
   rw [killM_ap]
   apply Option.ext
   intro z
   show del3 M.ap a b c x y = some z ↔ apR (killL T a b c) x y = some z
   rw [del3_some,hm,h.ap,h.mem]
   have key : ∀ t,t ∈ T → inT t x y z → (¬inT t a b c ↔ ¬(x = a ∧ y = b) ∧ ¬(x = b ∧ y = c) ∧ ¬(x = c ∧ y = a)) := fun t ht hi => by
    constructor
    ·intro hno
     refine ⟨fun q => hno ?_,fun q => hno ?_,fun q => hno ?_⟩
     ·have := h.only ht ht0 (z := z) (z' := c) (by rw [q.1,q.2] at hi; exact hi) hi0
      rw [this]; exact hi0
     ·have := h.only ht ht0 (x := b) (y := c) (z := z) (z' := a) (by rw [q.1,q.2] at hi; exact hi) (inT_next hi0)
      rw [this]; exact hi0
     ·have := h.only ht ht0 (x := c) (y := a) (z := z) (z' := b) (by rw [q.1,q.2] at hi; exact hi) (inT_next (inT_next hi0))
      rw [this]; exact hi0
    ·rintro ⟨q1,q2,q3⟩ hi2
     rcases hi with ⟨e1,e2,_⟩ | ⟨e1,e2,_⟩ | ⟨e1,e2,_⟩ <;> rcases hi2 with ⟨f1,f2,f3⟩ | ⟨f1,f2,f3⟩ | ⟨f1,f2,f3⟩ <;> first | exact q1 ⟨e1.trans f1.symm,e2.trans f2.symm⟩ | exact q2 ⟨e1.trans f2.symm,e2.trans f3.symm⟩ | exact q3 ⟨e1.trans f3.symm,e2.trans f1.symm⟩
   constructor
   ·rintro ⟨⟨t,ht,hi⟩,q⟩
    exact ⟨t,(hmem t).2 ⟨ht,(key t ht hi).2 (by omega)⟩,hi⟩
   ·rintro ⟨t,ht,hi⟩
    have ht2 := (hmem t).1 ht
    have := (key t ht2.1 hi).1 ht2.2
    exact ⟨⟨t,ht2.1,hi⟩,by omega⟩
  ·have hR : killR M a b c = M := by unfold killR; rw [if_neg e]
   have hno : ∀ t,t ∈ T → ¬inT t a b c := fun t ht hi => e (hin.2 ⟨t,ht,hi⟩)
   have hL : killL T a b c = T := by
    unfold killL
    rw [List.filter_eq_self]
    intro t ht
    unfold keepT
    rw [decide_eq_false (fun e => hno t ht ((ownG_in (h.ne t ht) a b c).1 e))]; rfl
   rw [hR,hL]; exact h
 ·rw [hlen]
  unfold killCode
  by_cases e : M.ap a b = some c
  ·rw [if_pos e]
   obtain ⟨t0,ht0,hi0⟩ := hin.1 e
   constructor
   ·intro hh; exact absurd hi0 (hh t0 ht0)
   ·intro hh; omega
  ·rw [if_neg e]
   constructor
   ·intro _; rfl
   ·intro _ t ht hi; exact e (hin.2 ⟨t,ht,hi⟩)
theorem ins_gen {α : Type} {lt : α → α → Prop} {L : List α} {x : α} {k : Nat} (hL : L.Pairwise lt) (ha : ∀ y,y ∈ L.take k → lt y x) (hb : ∀ y,y ∈ L.drop k → lt x y) : (L.take k ++ [x] ++ L.drop k).Pairwise lt ∧ ∀ y,y ∈ L.take k ++ [x] ++ L.drop k ↔ y ∈ L ∨ y = x := by
 have hab : (L.take k).Pairwise lt ∧ (L.drop k).Pairwise lt ∧ ∀ x,x ∈ L.take k → ∀ y,y ∈ L.drop k → lt x y := by
  have := hL
  rw [← List.take_append_drop k L] at this
  exact List.pairwise_append.1 this
 constructor
 ·rw [List.append_assoc,List.pairwise_append]
  refine ⟨hab.1,?_,fun x hx y hy => ?_⟩
  ·rw [List.singleton_append,List.pairwise_cons]
   exact ⟨hb,hab.2.1⟩
  ·rw [List.singleton_append] at hy
   rcases List.mem_cons.1 hy with rfl | hy
   ·exact ha x hx
   ·exact hab.2.2 x hx y hy
 ·intro y
  have hm : y ∈ L ↔ y ∈ L.take k ∨ y ∈ L.drop k := by
   conv => lhs; rw [← List.take_append_drop k L]
   exact List.mem_append
  rw [hm]
  simp only [List.mem_append,List.mem_singleton]
  constructor
  ·rintro ((h | h) | h)
   ·exact .inl (.inl h)
   ·exact .inr h
   ·exact .inl (.inr h)
  ·rintro ((h | h) | h)
   ·exact .inl (.inl h)
   ·exact .inr h
   ·exact .inl (.inr h)
theorem FixT.loose {fx : Int → Int → Option Int} {S : List Seg3} (h : FixT fx S) (u t : Int) : FixT (delE fx u t) (looseL S u t) := by
 refine ⟨h.srt.filter _,fun y => ?_⟩
 unfold looseL keepS delE
 rw [List.mem_filter,h.mem]
 simp only [Bool.not_eq_true', Bool.and_eq_false_iff,decide_eq_false_iff_not]
 by_cases q : y.1 = u ∧ y.2.1 = t
 ·rw [if_pos q]
  constructor
  ·rintro ⟨_,h1⟩; exfalso; omega
  ·intro e; cases e
 ·rw [if_neg q]
  constructor
  ·rintro ⟨h1,_⟩; exact h1
  ·intro e; exact ⟨e,by omega⟩
theorem FixT.put {fx : Int → Int → Option Int} {S S' : List Seg3} {u t v : Int} (h : FixT fx S) (hp : PutS (looseL S u t) u t v S') : FixT (upE fx u t v) S' := by
 have hl := h.loose u t
 obtain ⟨k,hk,rfl,h1,h2⟩ := hp
 have e : ∀ j (hj : j < (looseL S u t).length),(looseL S u t).getD j (0,0,0) = (looseL S u t)[j] := fun j hj => by rw [List.getD_eq_getElem?_getD,List.getElem?_eq_getElem hj]; rfl
 have hno : ∀ y,y ∈ looseL S u t → ¬(y.1 = u ∧ y.2.1 = t) := fun y hy q => by
  have := (hl.mem y).1 hy
  unfold delE at this
  rw [if_pos q] at this; cases this
 have ltS_iff : ∀ y : Seg3,ltS u t y = true ↔ ltG y (u,t,v) := fun y => by
  unfold ltS ltG ltP; simp
 have ha : ∀ y,y ∈ (looseL S u t).take k → ltG y (u,t,v) := by
  intro y hy
  obtain ⟨j,hj,rfl⟩ := List.getElem_of_mem hy
  rw [List.length_take] at hj
  rw [List.getElem_take,← e j (by omega)]
  exact (ltS_iff _).1 (h1 j (by omega))
 have hb : ∀ y,y ∈ (looseL S u t).drop k → ltG (u,t,v) y := by
  intro y hy
  obtain ⟨j,hj,rfl⟩ := List.getElem_of_mem hy
  rw [List.length_drop] at hj
  have hkL : k < (looseL S u t).length := by omega
  have h3 := h2 hkL
  have hf : ltG (u,t,v) ((looseL S u t).getD k (0,0,0)) := by
   have hn := hno ((looseL S u t).getD k (0,0,0)) (by rw [e k hkL]; exact List.getElem_mem hkL)
   have h4 : ¬ltG ((looseL S u t).getD k (0,0,0)) (u,t,v) := fun q => by rw [(ltS_iff _).2 q] at h3; cases h3
   unfold ltG ltP at *
   dsimp only at *
   omega
  rw [List.getElem_drop,← e _ (by omega)]
  rcases Nat.eq_zero_or_pos j with rfl | q
  ·exact hf
  ·refine ltG_trans _ _ _ hf ?_
   rw [e k hkL,e (k + j) (by omega)]
   exact List.pairwise_iff_getElem.1 hl.srt k (k + j) hkL (by omega) (by omega)
 obtain ⟨g1,g2⟩ := ins_gen (x := (u,t,v)) hl.srt ha hb
 refine ⟨g1,fun y => ?_⟩
 rw [g2,hl.mem]
 unfold delE upE
 by_cases q : y.1 = u ∧ y.2.1 = t
 ·rw [if_pos q,if_pos q]
  constructor
  ·rintro (h5 | h5)
   ·cases h5
   ·rw [h5]
  ·intro h5
   cases h5
   exact .inr (Prod.ext q.1 (Prod.ext q.2 rfl))
 ·rw [if_neg q,if_neg q]
  constructor
  ·rintro (h5 | h5)
   ·exact h5
   ·rw [h5] at q; simp at q
  ·exact fun h5 => .inl h5
theorem segFields : (Tryz.prog.fieldsOf 90).toList.map (fun f => (f.type,f.offset)) = [(3,0),(3,1),(3,2)] := by kernel_rfl
theorem segHeld : Tryz.prog.stoodInHeld 90 = false := by kernel_rfl
theorem segStruct : Tryz.prog.underlying 90 = some (.struct (Tryz.prog.fieldsOf 90)) := by kernel_rfl
theorem neqSeg (x y z : Int) (w : World) : (binOp .neq 90 (.agg #[.int .i64 x,.int .i64 y,.int .i64 z]) (.agg #[.int .i64 x,.int .i64 y,.int .i64 z])).run Tryz.prog w = .ok (.bool false) w := by
 rw [run_neq_struct,show (10000 : Nat) = 9999 + 1 from rfl,run_equalIn_struct w 9999 _ _ _ segStruct segHeld,eqFields_all]
 ·rfl
 ·intro f hf
  have hm : (f.type,f.offset) ∈ [((3 : TypeId),(0 : Nat)),(3,1),(3,2)] := by
   rw [← segFields]; exact List.mem_map.2 ⟨f,hf,rfl⟩
  simp only [List.mem_cons,List.not_mem_nil,or_false,Prod.mk.injEq] at hm
  rcases hm with ⟨h1,h2⟩ | ⟨h1,h2⟩ | ⟨h1,h2⟩
  ·rw [h1,h2]; exact ⟨_,part3_0 x y z,fun w => (run_item9 x x w).trans (by simp)⟩
  ·rw [h1,h2]; exact ⟨_,part3_1 x y z,fun w => (run_item9 y y w).trans (by simp)⟩
  ·rw [h1,h2]; exact ⟨_,part3_2 x y z,fun w => (run_item9 z z w).trans (by simp)⟩
theorem KCells.seg {w : World} {ad : Option Addr} {l : List Seg3} (h : KCells encS w ad l) {k : Nat} (hk : k < l.length) : ∃ g,ad = some ⟨g,0,none⟩ ∧ g < w.heap.size ∧
  w.cell? ⟨g,k * 3,none⟩ = some (.int .i64 (l.getD k (0,0,0)).1) ∧ w.cell? ⟨g,k * 3 + 1,none⟩ = some (.int .i64 (l.getD k (0,0,0)).2.1) ∧ w.cell? ⟨g,k * 3 + 2,none⟩ = some (.int .i64 (l.getD k (0,0,0)).2.2) := by
 obtain ⟨g,rfl,hg,hc⟩ := h (by omega)
 have e : l.getD k (0,0,0) = l[k] := by rw [List.getD_eq_getElem?_getD,List.getElem?_eq_getElem hk]; rfl
 have a := cellsK_at encS_len l k hk
 refine ⟨g,rfl,hg,hc _ _ ?_,hc _ _ ?_,hc _ _ ?_⟩
 ·rw [e]; have := a 0 (by omega); rw [Nat.add_zero] at this; exact this
 ·rw [e]; exact a 1 (by omega)
 ·rw [e]; exact a 2 (by omega)
theorem sameSegs_walk (l : List Seg3) (ad bd : Option Addr) (ca cb : Nat) (w : World) (ha : KCells encS w ad l) (hb : KCells encS w bd l) (hl : l.length ≤ 1000000000000) :
  Calls Tryz.prog 23 #[.slice ad l.length ca,.slice bd l.length cb] w fun r w' => r = .returned (.bool true) ∧ Below w.heap.size w w' := by
 have HA := Lib.hid ha
 have HB := Lib.hid hb
 clear ha hb
 go_enter Tryz.func23,Tryz.ntmps23
 go_wp2
 go_loopw [5] (fun s5 wr => ∃ k : Nat,k ≤ l.length ∧ s5 = .int .i64 k ∧ Hid (Below w.heap.size w wr)) (fun i _ => l.length - (intOf i).toNat)
 case atStart => exact ⟨0,Nat.zero_le _,rfl,Below.refl _ _⟩
 case round =>
  obtain ⟨k,hk,rfl,HBW⟩ := hrel
  by_cases hlt : k < l.length
  ·obtain ⟨g,rfl,hg,a0,a1,a2⟩ := (HA.out.below HBW.out).seg hlt
   obtain ⟨h,rfl,hh,b0,b1,b2⟩ := (HB.out.below HBW.out).seg hlt
   generalize l.getD k (0,0,0) = t at *
   obtain ⟨x,y,z⟩ := t
   dsimp only at a0 a1 a2 b0 b1 b2
   have hq := neqSeg x y z
   go_wp2
   go_region_held3 (fun w' => w' = wr.drew) (first | rfl | assumption) (fail)
   go_wp2
   go_roundw
   case rel => exact ⟨k + 1,by omega,(by first | rfl | rw [wrapS (by omega)]),HBW.out.drew⟩
   case measure => first | (simp [intOf]; omega) | (rw [wrapS (by omega)]; simp [intOf]; omega)
  ·have e : k = l.length := by omega
   subst e
   clear hlt hk
   go_wp2
   go_ret
   exact ⟨rfl,HBW.out⟩
def markL (S : List Seg3) (u t : Int) : Option Int := (S.find? fun s => decide (s.1 = u) && decide (s.2.1 = t)).map fun s => s.2.2
theorem markL_none {S : List Seg3} {u t : Int} (h : ∀ j,j < S.length → ¬((S.getD j (0,0,0)).1 = u ∧ (S.getD j (0,0,0)).2.1 = t)) : markL S u t = none := by
 unfold markL
 rw [Option.map_eq_none_iff,List.find?_eq_none]
 intro s hs
 obtain ⟨j,hj,rfl⟩ := List.getElem_of_mem hs
 have := h j hj
 rw [List.getD_eq_getElem?_getD,List.getElem?_eq_getElem hj] at this
 simpa using this
theorem markL_at {S : List Seg3} {u t : Int} {i : Nat} (hi : i < S.length) (h : ∀ j,j < i → ¬((S.getD j (0,0,0)).1 = u ∧ (S.getD j (0,0,0)).2.1 = t)) (h1 : (S.getD i (0,0,0)).1 = u) (h2 : (S.getD i (0,0,0)).2.1 = t) : markL S u t = some (S.getD i (0,0,0)).2.2 := by
 have e : S = S.take i ++ S.getD i (0,0,0) :: S.drop (i + 1) := by
  rw [List.getD_eq_getElem?_getD,List.getElem?_eq_getElem hi]
  simp
 have h3 : markL (S.take i) u t = none := markL_none (fun j hj => by
  rw [List.length_take] at hj
  have := h j (by omega)
  rwa [List.getD_eq_getElem?_getD,List.getElem?_take,if_pos (by omega),← List.getD_eq_getElem?_getD])
 clear h hi
 generalize S.getD i (0,0,0) = s at *
 generalize S.take i = A at *
 generalize S.drop (i + 1) = D at *
 subst e
 unfold markL at h3 ⊢
 rw [Option.map_eq_none_iff] at h3
 rw [List.find?_append,h3,List.find?_cons]
 simp [h1,h2]
theorem FixT.mark {fx : Int → Int → Option Int} {S : List Seg3} (h : FixT fx S) (u t : Int) : markL S u t = fx u t := by
 unfold markL
 cases e : S.find? (fun s => decide (s.1 = u) && decide (s.2.1 = t)) with
 | none =>
  rw [List.find?_eq_none] at e
  cases e2 : fx u t with
  | none => rfl
  | some c => exact absurd ((h.mem (u,t,c)).2 e2) (fun hm => by have := e _ hm; simp at this)
 | some s =>
  have h1 := List.find?_some e
  have h2 := (h.mem s).1 (List.mem_of_find?_eq_some e)
  simp only [Bool.and_eq_true,decide_eq_true_eq] at h1
  rw [h1.1,h1.2] at h2
  exact h2.symm
theorem fixed15 {w : World} {B xb : Nat} {P : List Pt} {ad : Option Addr} {cap : Nat} {T : List Tri3} {vT : Value} {S : List Seg3} {vS : Value} (h : RMs w B xb P ad cap T vT S vS) (hS : S.length ≤ 1000000) (a b : Int) :
  Calls Tryz.prog 53 #[.pointer (some ⟨xb,0,none⟩),.int .i64 a,.int .i64 b] w fun r w' => r = .returned (.tuple #[.int .i64 ((markL S (minI a b) (maxI a b)).getD 0),.bool (markL S (minI a b) (maxI a b)).isSome]) ∧ Below w.heap.size w w' := by
 have HSL := Lib.hid hS
 obtain ⟨g,cp,n,hv,hn⟩ : ∃ g cp n,vS = .slice g n cp ∧ n = S.length := by
  rcases h.seg.2 with ⟨rfl,h0⟩ | ⟨g,cp,cur,rfl,_⟩
  ·exact ⟨none,0,0,rfl,h0.symm⟩
  ·exact ⟨_,_,_,rfl,rfl⟩
 subst hv
 have HG : Hid (∀ i W,i < n → Below w.heap.size w W → ∃ b,g = some ⟨b,0,none⟩ ∧ W.cell? ⟨b,i * 3,none⟩ = some (.int .i64 (S.getD i (0,0,0)).1) ∧ W.cell? ⟨b,i * 3 + 1,none⟩ = some (.int .i64 (S.getD i (0,0,0)).2.1) ∧ W.cell? ⟨b,i * 3 + 2,none⟩ = some (.int .i64 (S.getD i (0,0,0)).2.2)) := fun i W hi hb => by
  have ho := h.seg
  rcases ho.2 with ⟨_,h0⟩ | ⟨b,cp', cur,e,_⟩
  ·omega
  ·cases e
   obtain ⟨x0,x1,x2⟩ := seg_cells ho (i := i) (by omega)
   exact ⟨b,rfl,cell_keep x0 hb,cell_keep x1 hb,cell_keep x2 hb⟩
 have HX : Hid (∀ W,Below w.heap.size w W → W.cell? ⟨xb,2,none⟩ = some (.slice g n cp)) := fun W hb => cell_keep h.cells.2.2 hb
 have HN := Lib.hid hn
 have c2 := HX.out w (Below.refl _ _)
 clear h hS hn
 rw [minI_min,maxI_max]
 generalize hu : min a b = u
 generalize ht : max a b = t
 have HAT : Hid (∀ i,i < n → (∀ j,j < i → ¬((S.getD j (0,0,0)).1 = u ∧ (S.getD j (0,0,0)).2.1 = t)) → (S.getD i (0,0,0)).1 = u → (S.getD i (0,0,0)).2.1 = t → markL S u t = some (S.getD i (0,0,0)).2.2) := fun i hi => markL_at (by have := HN.out; omega)
 have HNO : Hid ((∀ j,j < n → ¬((S.getD j (0,0,0)).1 = u ∧ (S.getD j (0,0,0)).2.1 = t)) → markL S u t = none) := fun h1 => markL_none (fun j hj => h1 j (by have := HN.out; omega))
 generalize markL S u t = RR at *
 go_enter Tryz.func53,Tryz.ntmps53
 go_wp2
 go_loopw [8] (fun s8 wr => ∃ i : Nat,i ≤ n ∧ s8 = .int .i64 i ∧ Hid (∀ j,j < i → ¬((S.getD j (0,0,0)).1 = u ∧ (S.getD j (0,0,0)).2.1 = t)) ∧ Hid (Below w.heap.size w wr)) (fun s8 _ => n - (intOf s8).toNat)
 case atStart => exact ⟨0,Nat.zero_le _,rfl,fun j hj => absurd hj (by omega),Below.refl _ _⟩
 case round =>
  clear c2
  obtain ⟨i,hin,rfl,HI,HR⟩ := hrel
  have c2 := HX.out _ HR.out
  by_cases hlt : i < n
  ·obtain ⟨bb,rfl,x0,x1,x2⟩ := HG.out i _ hlt HR.out
   have hz : (i : Int) < (n : Int) := by omega
   have hi0 : (0 : Int) ≤ (i : Int) := by omega
   have hw1 : wrap64 ((i : Int) + 1) = (i : Int) + 1 := by have := HSL.out; have := HN.out; unfold wrap64; omega
   have HF2 := Lib.hid (HAT.out i hlt HI.out)
   have HN2 : Hid (¬((S.getD i (0,0,0)).1 = u ∧ (S.getD i (0,0,0)).2.1 = t) → ∀ j,j < i + 1 → ¬((S.getD j (0,0,0)).1 = u ∧ (S.getD j (0,0,0)).2.1 = t)) := fun h0 j hj => by
    rcases Nat.lt_or_ge j i with q | q
    ·exact HI.out j q
    ·rw [show j = i by omega]; exact h0
   generalize (S.getD i (0,0,0)).1 = s0 at x0 HF2 HN2
   generalize (S.getD i (0,0,0)).2.1 = s1 at x1 HF2 HN2
   generalize (S.getD i (0,0,0)).2.2 = s2 at x2 HF2
   by_cases e1 : s0 = u
   ·by_cases e2 : s1 = t
    ·have HRR := Lib.hid (HF2.out e1 e2)
     go_wp2
     first | go_ret2 | refine bodyPost_ret (by simp [results,Tryz.results53,go_sem]; try rfl) rfl ?_
     rw [HRR.out]
     exact ⟨rfl,HR.out⟩
    ·have HR2 := Lib.hid (HN2.out (fun e => e2 e.2))
     subst e1
     go_wp2
     go_roundw
     case rel => exact ⟨i + 1,by omega,by (try rw [hw1]); rfl,HR2.out,HR.out⟩
     case measure => (try rw [hw1]); simp only [intOf]; omega
   ·have HR2 := Lib.hid (HN2.out (fun e => e1 e.1))
    go_wp2
    go_roundw
    case rel => exact ⟨i + 1,by omega,by (try rw [hw1]); rfl,HR2.out,HR.out⟩
    case measure => (try rw [hw1]); simp only [intOf]; omega
  ·have e : i = n := by omega
   subst e
   have hz : ¬(i : Int) < (i : Int) := by omega
   have HRR := Lib.hid (HNO.out HI.out)
   go_wp2
   first | go_ret2 | refine bodyPost_ret (by simp [results,Tryz.results53,go_sem]; try rfl) rfl ?_
   rw [HRR.out]
   exact ⟨rfl,HR.out⟩
end Go.Proofs.YtbagikgpgdlkcaaGreatDoor
