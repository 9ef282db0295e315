/- Part of the proof. No conditions. -/
import Derived.Test.YtbagikgpgdlkcaaGreatDoorZU
import Derived.Test.YtbagikgpgdlkcaaGreatDoorZZ
set_option linter.all false
set_option maxHeartbeats 8000000
set_option maxRecDepth 100000
namespace Go.Proofs.YtbagikgpgdlkcaaGreatDoor
open Go.RowKit Go.Maps Go.WideMaps
theorem fix_ok2 {w0 w : World} {mb n : Nat} {M : MeshM} {F : Nat → Prop} (h : MB w0 w mb n M F) (hn : n ≤ 1000000000) {a b v : Int} (ha : i64ok a) (hb : i64ok b) (hx : hasM M a = true) (hy : hasM M b = true) (hab : a ≠ b) :
  Calls Tryz.prog 39 #[.pointer (some ⟨mb,0,none⟩),.int .i64 a,.int .i64 b,.int .i64 v] w fun r w' => r = .returned (.int .i64 0) ∧ MB w0 w' mb (n + 1) (fxM M (upE M.fx (minI a b) (maxI a b) v)) F ∧ Stay F w w' := by
 have HA := Lib.hid (has_walk h.at_ a)
 have HB := Lib.hid (has_walk h.at_ b)
 rw [hx] at HA
 rw [hy] at HB
 have HN := Lib.hid h.new
 have HKP := Lib.hid h.keep
 obtain ⟨ba,bs,bf,pv,sv,hp⟩ := h.at_
 have n0 : w.drew.cell? ⟨mb,4,none⟩ = some (.map (some bf)) := hp.c4
 have hne : some mb ≠ some bf := by have := hp.mb_ne hp.fxm; simpa using this
 have HNE := Lib.hid hne
 have HO := Lib.hid (own_walk a b)
 have HP := Lib.hid hp
 have HI := Lib.hid (i64ok_min ha hb)
 have HL := Lib.hid hn
 clear h hp hx hy ha hb hne hn
 generalize minI a b = u at *
 generalize maxI a b = t at *
 unfold kE at HO
 have HST : Hid (∀ w1,FMap Tryz.prog w1 80 bf n (edgeV M.fx) → ∃ w2,(Instr.mapUpdate 76 (.map (some bf)) (.agg #[.int .i64 u,.int .i64 t]) (.int .i64 v)).run Tryz.prog w1 = .ok () w2 ∧ FMap Tryz.prog w2 80 bf (n + 1) (edgeV (upE M.fx u t v)) ∧ w1.grownBy w2 (some bf)) := by
  intro w1 h1
  rw [← edgeV_up]
  exact h1.store edgeLaw Tryz.underlying76 (by have := HL.out; unfold maxLen; omega) (keyE HI.out.1 HI.out.2) (.int .i64 v)
 have HOWN : Hid (Calls Tryz.prog 48 #[.int .i64 a,.int .i64 b] w.drew fun r w1 => r = .returned (.agg #[.int .i64 u,.int .i64 t]) ∧ ∃ w2,Below w.heap.size w w1 ∧ w1.cell? ⟨mb,4,none⟩ = some (.map (some bf)) ∧ (Instr.mapUpdate 76 (.map (some bf)) (.agg #[.int .i64 u,.int .i64 t]) (.int .i64 v)).run Tryz.prog w1 = .ok () w2 ∧ FMap Tryz.prog w2 80 bf (n + 1) (edgeV (upE M.fx u t v)) ∧ w1.grownBy w2 (some bf) ∧ w2.cell? ⟨mb,4,none⟩ = some (.map (some bf))) := by
  refine (HO.out w.drew).mono ?_
  rintro r w1 ⟨rfl,hb1⟩
  have b1 : Below w.heap.size w w1 := (Below.refl w.heap.size w).drew.trans hb1
  have hp1 := HP.out.below b1
  obtain ⟨w2,hrun2,hf2,hg2⟩ := HST.out w1 hp1.fxm
  exact ⟨rfl,w2,b1,hp1.c4,hrun2,hf2,hg2,hg2.cell hp1.c4 HNE.out⟩
 go_enter Tryz.func39,Tryz.ntmps39
 go_wp2_with (first
  |(go_at_call 75; with_reducible refine HA.out.mono ?_; rintro r w1 ⟨rfl,rfl⟩)
  |(go_at_call 75; with_reducible refine HB.out.mono ?_; rintro r w1 ⟨rfl,rfl⟩))
 go_region_held3 (fun w' => w'.cell? ⟨mb,4,none⟩ = some (.map (some bf))) (first | assumption | exact n2 | exact n1)
  (first | (go_at_call 48; refine HOWN.out.mono ?_; rintro r w1 ⟨rfl,w2,b1,n1,hrun2,hf2,hg2,n2⟩))
 all_goals
  have hp1 := HP.out.below b1
  have hp2 := fx_parts hp1 hf2 hg2
  go_wp2
  go_ret
  refine ⟨rfl,⟨⟨ba,bs,bf,pv,sv,hp2⟩,HN.out,?_⟩,(Stay.of_below b1).trans (Stay.of_grown hg2 (fun j e => .inl (by cases e; exact hp1.fbf)))⟩
  refine ⟨hg2.os.trans (b1.os.trans HKP.out.os),hg2.tape.trans (b1.tape.trans HKP.out.tape),hg2.output.trans (b1.output.trans HKP.out.output),Nat.le_trans HKP.out.size (Nat.le_trans b1.size hg2.size),fun i hi => ?_⟩
  rw [hg2.block i (by have := HKP.out.size; have := b1.size; omega) (by have := HN.out bf hp1.fbf; intro e; cases e; omega),b1.block i (by have := HKP.out.size; omega)]
  exact HKP.out.block i hi
open Tvf
theorem RM.lt {w : World} {B xb : Nat} {P : List Pt} {T : List Tri3} {S : List Seg3} {R : Nat → Prop} (h : RM w B xb P T S R) : ∀ i,R i → i < w.heap.size := by
 obtain ⟨ad,cap,vT,vS,_,_,h3⟩ := h
 exact h3
theorem fxM_sound15 {M : MeshM} (h : Sound M) (f : Int → Int → Option Int) : Sound (fxM M f) := ⟨h.rot,h.win,h.sgn,h.cnt,h.sp⟩
structure BO (w wr : World) (l : List Pt) (mb xb nm nt ns : Nat) (B n : Nat) (M : MeshM) (F : Nat → Prop) (T : List Tri3) (S : List Seg3) (R : Nat → Prop) : Prop where
 m : MB w wr mb n M F
 x : RM wr B xb l T S R
 sd : Sound M
 P : M.P = l
 hn : n ≤ nm
 ht : T.length ≤ nt
 hs : S.length ≤ ns
 off : ∀ i,R i → ¬F i
 new : ∀ i,R i → w.heap.size ≤ i
section
variable {w wr w' : World} {l : List Pt} {mb xb nm nt ns nm' nt' ns' : Nat}
theorem BO.turn_x {B n : Nat} {M : MeshM} {F : Nat → Prop} {T T' : List Tri3} {S S' : List Seg3} {R : Nat → Prop} (H : BO w wr l mb xb nm nt ns B n M F T S R) (hst : Stay R wr w') (hx : RM w' B xb l T' S' (Fx R wr w')) (h1 : T'.length ≤ nt') (h2 : S'.length ≤ ns') : BO w w' l mb xb nm nt' ns' B n M F T' S' (Fx R wr w') := by
 have hk : Below w.heap.size w w' := ⟨hst.os.trans H.m.keep.os,hst.tape.trans H.m.keep.tape,hst.output.trans H.m.keep.output,Nat.le_trans H.m.keep.size hst.size,fun i hi => (hst.block i (Nat.lt_of_lt_of_le hi H.m.keep.size) (fun e => by have := H.new i e; omega)).trans (H.m.keep.block i hi)⟩
 refine ⟨H.m.apart hst hk (fun i hi e => H.off i e hi),hx,H.sd,H.P,H.hn,h1,h2,fun i hi e => ?_,fun i hi => ?_⟩
 ·rcases hi with hi | hi
  ·exact H.off i hi e
  ·have := H.m.at_.flt i e; omega
 ·rcases hi with hi | hi
  ·exact H.new i hi
  ·exact Nat.le_trans H.m.keep.size hi.1
end
def SCells (w : World) (ad : Option Addr) (l : List Seg3) : Prop :=
 0 < l.length → ∃ b off,ad = some ⟨b,off,none⟩ ∧ b < w.heap.size ∧ ∀ i,i < l.length →
  w.cell? ⟨b,off + i * 3,none⟩ = some (.int .i64 (l.getD i (0,0,0)).1) ∧ w.cell? ⟨b,off + i * 3 + 1,none⟩ = some (.int .i64 (l.getD i (0,0,0)).2.1) ∧ w.cell? ⟨b,off + i * 3 + 2,none⟩ = some (.int .i64 (l.getD i (0,0,0)).2.2)
theorem SCells.below {w w' : World} {ad : Option Addr} {l : List Seg3} (h : SCells w ad l) (hb : Below w.heap.size w w') : SCells w' ad l := by
 intro hl
 obtain ⟨b,off,rfl,hbb,hc⟩ := h hl
 exact ⟨b,off,rfl,Nat.lt_of_lt_of_le hbb hb.size,fun i hi => ⟨cell_keep (hc i hi).1 hb,cell_keep (hc i hi).2.1 hb,cell_keep (hc i hi).2.2 hb⟩⟩
end Go.Proofs.YtbagikgpgdlkcaaGreatDoor
namespace Go.Proofs.YtbagikgpgdlkcaaGreatDoor
open Go.RowKit Tvf Go.Maps Go.WideMaps
structure GivenV (w : World) (l : List Pt) (ap : Option Addr) (cp : Nat) (T : List Tri3) (at_ : Option Addr) (ct : Nat) (S : List Seg3) (sa : Option Addr) (cs : Nat) : Prop where
 p : PCells w ap l
 p64 : ∀ p,p ∈ l → pt64 p
 t : TCells w at_ T
 ti : ∀ t,t ∈ T → i64ok t.1 ∧ i64ok t.2.1 ∧ i64ok t.2.2
 s : SCells w sa S
 si : ∀ s,s ∈ S → i64ok s.1 ∧ i64ok s.2.1 ∧ i64ok s.2.2
theorem GivenV.below {w w' : World} {l : List Pt} {ap : Option Addr} {cp : Nat} {T : List Tri3} {at_ : Option Addr} {ct : Nat} {S : List Seg3} {sa : Option Addr} {cs : Nat} (h : GivenV w l ap cp T at_ ct S sa cs) (hb : Below w.heap.size w w') : GivenV w' l ap cp T at_ ct S sa cs := ⟨h.p.below hb,h.p64,h.t.below hb,h.ti,h.s.below hb,h.si⟩
theorem large17 (ap at_ sa : Option Addr) (np cp nt ct ns cs : Nat) (w : World) :
  Calls Tryz.prog 9 #[.agg #[.slice ap np cp,.slice at_ nt ct,.slice sa ns cs]] w fun r w' => r = .returned (.bool (decide (60 < np) || (decide (120 < nt) || decide (60 < ns)))) ∧ Below w.heap.size w w' := by
 have h4 : (60 < np) ∨ (¬60 < np ∧ 120 < nt) ∨ (¬60 < np ∧ ¬120 < nt ∧ 60 < ns) ∨ (¬60 < np ∧ ¬120 < nt ∧ ¬60 < ns) := by omega
 rcases h4 with h1 | ⟨h1,h2⟩ | ⟨h1,h2,h3⟩ | ⟨h1,h2,h3⟩
 all_goals
  have z1 : ((60 : Int) < (np : Int)) = (60 < np) := by simp; omega
  have z2 : ((120 : Int) < (nt : Int)) = (120 < nt) := by simp; omega
  have z3 : ((60 : Int) < (ns : Int)) = (60 < ns) := by simp; omega
  go_enter Tryz.func9,Tryz.ntmps9
  go_wp2
  go_ret
  refine ⟨?_,(Below.refl _ _).alloc (Nat.le_refl _) _⟩
  simp [*]
theorem both17_bad {w : World} {l : List Pt} {ap : Option Addr} {cp : Nat} {at_ : Option Addr} {nt ct : Nat} {sa : Option Addr} {ns cs : Nat} (hp : PCells w ap l) (h64 : ∀ p,p ∈ l → pt64 p) (hk : allCode l ≠ 0) :
  Calls Tryz.prog 16 #[.agg #[.slice ap l.length cp,.slice at_ nt ct,.slice sa ns cs]] w fun r w' => r = .returned (.tuple #[.pointer none,.pointer none]) ∧ Below w.heap.size w w' := by
 have HB0 : Hid (∀ o,Below w.heap.size w (w.alloc o)) := fun o => (Below.refl _ _).alloc (Nat.le_refl _) o
 have HN1 := Lib.hid (fun W (hb : Below w.heap.size w W) => new_bad l ap cp h64 hk W (hp.below hb))
 have HN2 := Lib.hid (fun W (hb : Below w.heap.size w W) => new15_bad l ap cp h64 hk W (hp.below hb))
 have HC := Lib.hid (fun W (hb : Below (w.alloc (.cells #[.slice ap l.length cp,.slice at_ nt ct,.slice sa ns cs] 26)).heap.size (w.alloc (.cells #[.slice ap l.length cp,.slice at_ nt ct,.slice sa ns cs] 26)) W) => (C3.new w (.slice ap l.length cp) (.slice at_ nt ct) (.slice sa ns cs) 26).below hb)
 clear hp h64
 generalize allCode l = k at *
 go_enter Tryz.func16,Tryz.ntmps16
 go_wp2_with (first
  |(go_at_call 33; (with_reducible refine (HN1.out _ (HB0.out _)).mono ?_); rintro r w1 ⟨rfl,hb1⟩; obtain ⟨c0,c1,c2⟩ := HC.out _ hb1; have B1 := Lib.hid (bseq (HB0.out _) hb1))
  |(go_at_call 30; (with_reducible refine (HN2.out _ B1.out).mono ?_); rintro r w2 ⟨rfl,hb2⟩; have B2 := Lib.hid (bseq B1.out hb2)))
 go_ret2
 exact ⟨rfl,B2.out⟩
end Go.Proofs.YtbagikgpgdlkcaaGreatDoor
