/- Part of the proof. No conditions. -/
import Derived.Test.YtbagikgpgdlkcaaGreatDoorZa
import Derived.Test.YtbagikgpgdlkcaaGreatDoorZe
set_option linter.all false
set_option maxHeartbeats 8000000
set_option maxRecDepth 100000
namespace Go.Proofs.YtbagikgpgdlkcaaGreatDoor
open Go.RowKit Tvf Go.Maps Go.WideMaps
theorem makeR_fx (M : MeshM) (a b c : Int) : (makeR M a b c).fx = M.fx := by unfold makeR; split <;> rfl
theorem killR_fx (M : MeshM) (a b c : Int) : (killR M a b c).fx = M.fx := by unfold killR; split <;> rfl
theorem Twin.fix {M : MeshM} {T : List Tri3} (h : Twin M T) (f : Int → Int → Option Int) : Twin (fxM M f) T := ⟨fxM_sound15 h.s f,h.ap,h.mem,h.dis,h.ne⟩
def fxR (l : List Pt) (fx : Int → Int → Option Int) (a b v : Int) : Int → Int → Option Int := if hasP l a = true ∧ hasP l b = true ∧ a ≠ b then upE fx (minI a b) (maxI a b) v else fx
def BOT (w wr : World) (l : List Pt) (mb xb nm nt ns : Nat) : Prop := ∃ B n M F T S R,BO w wr l mb xb nm nt ns B n M F T S R ∧ Twin M T ∧ FixT M.fx S
def BOTm (a b c : Int) (w wr : World) (l : List Pt) (mb xb nm nt ns : Nat) : Prop := ∃ B n M F T S R,BO w wr l mb xb nm nt ns B n (makeR M a b c) F T S R ∧ Twin M T ∧ FixT M.fx S ∧ M.P = l
def BOTf (a b v : Int) (w wr : World) (l : List Pt) (mb xb nm nt ns : Nat) : Prop := ∃ B n M F T S R,BO w wr l mb xb nm nt ns B n (fxM M (fxR l M.fx a b v)) F T S R ∧ Twin M T ∧ FixT M.fx S ∧ M.P = l
section
variable {w wr w' : World} {l : List Pt} {mb xb nm nt ns nm' nt' ns' : Nat} {a b c : Int}
theorem BO.low {B n : Nat} {M : MeshM} {F : Nat → Prop} {T : List Tri3} {S : List Seg3} {R : Nat → Prop} (H : BO w wr l mb xb nm nt ns B n M F T S R) (hb : Below wr.heap.size wr w') : BO w w' l mb xb nm nt ns B n M F T S R :=
 ⟨H.m.below hb,H.x.below hb,H.sd,H.P,H.hn,H.ht,H.hs,H.off,H.new⟩
theorem BOT.keep (h : BOT w wr l mb xb nm nt ns) : Below w.heap.size w wr := by obtain ⟨B,n,M,F,T,S,R,H,_⟩ := h; exact H.m.keep
theorem BOT.below (h : BOT w wr l mb xb nm nt ns) (hb : Below wr.heap.size wr w') : BOT w w' l mb xb nm nt ns := by
 obtain ⟨B,n,M,F,T,S,R,H,h1,h2⟩ := h
 exact ⟨B,n,M,F,T,S,R,H.low hb,h1,h2⟩
theorem BOT.drew (h : BOT w wr l mb xb nm nt ns) : BOT w wr.drew l mb xb nm nt ns := h.below (Below.refl _ _).drew
theorem BOTm.keep (h : BOTm a b c w wr l mb xb nm nt ns) : Below w.heap.size w wr := by obtain ⟨B,n,M,F,T,S,R,H,_⟩ := h; exact H.m.keep
theorem BOTm.drew (h : BOTm a b c w wr l mb xb nm nt ns) : BOTm a b c w wr.drew l mb xb nm nt ns := by
 obtain ⟨B,n,M,F,T,S,R,H,h1,h2⟩ := h
 exact ⟨B,n,M,F,T,S,R,H.low (Below.refl _ _).drew,h1,h2⟩
theorem BOTf.keep (h : BOTf a b c w wr l mb xb nm nt ns) : Below w.heap.size w wr := by obtain ⟨B,n,M,F,T,S,R,H,_⟩ := h; exact H.m.keep
theorem BOTf.drew (h : BOTf a b c w wr l mb xb nm nt ns) : BOTf a b c w wr.drew l mb xb nm nt ns := by
 obtain ⟨B,n,M,F,T,S,R,H,h1,h2⟩ := h
 exact ⟨B,n,M,F,T,S,R,H.low (Below.refl _ _).drew,h1,h2⟩
theorem BOT.make_m (h : BOT w wr l mb xb nm nt ns) (h64 : ∀ p,p ∈ l → pt64 p) (hl : l.length ≤ 1048576) (hb : nm ≤ 1000000) (a b c : Int) :
  Calls Tryz.prog 34 #[.pointer (some ⟨mb,0,none⟩),.int .i64 a,.int .i64 b,.int .i64 c] wr fun r w' => (∃ k : Int,r = .returned (.int .i64 k)) ∧ Hid (BOTm a b c w w' l mb xb (nm + 3) nt ns) := by
 obtain ⟨B,n,M,F,T,S,R,H,tw,fx⟩ := h
 have hn := H.hn
 refine (make_mb H.m (by rw [H.P]; exact h64) (by rw [H.P]; exact hl) (by omega) a b c).mono ?_
 rintro r w' ⟨rfl,h1,h2⟩
 exact ⟨⟨_,rfl⟩,B,n + 3,M,_,T,S,R,⟨h1,H.x.stay h2 H.off,makeR_sound H.sd _ _ _,(makeR_P _ _ _ _).trans H.P,by omega,H.ht,H.hs,fun i hi e => e.elim (H.off i hi) (fun e => by have := H.x.lt i hi; omega),H.new⟩,tw,fx,H.P⟩
theorem BO.made_x {B n : Nat} {M : MeshM} {F : Nat → Prop} {T : List Tri3} {S : List Seg3} {R : Nat → Prop} (H : BO w wr l mb xb nm nt ns B n M F T S R) (h64 : ∀ p,p ∈ l → pt64 p) (hb : nt ≤ 1000000) (a b c : Int) :
  Calls Tryz.prog 31 #[.pointer (some ⟨xb,0,none⟩),.int .i64 a,.int .i64 b,.int .i64 c] wr fun r w' => r = .returned (.int .i64 (mkCode l T a b c)) ∧ Hid (∃ R', BO w w' l mb xb nm (nt + 1) ns B n M F (mkR l T a b c) S R') := by
 obtain ⟨ad,cap,vT,vS,h1,h2,h3⟩ := H.x
 have ht := H.ht
 refine (make15s h1 h64 (by omega) a b c).mono ?_
 rintro r w' ⟨rfl,vT', k1,k2,k3⟩
 have hst : Stay R wr w' := k2.mono h2
 refine ⟨rfl,_,H.turn_x hst ⟨ad,cap,vT', vS,k1,fun i hi => ?_,fun i hi => ?_⟩ ?_ H.hs⟩
 ·rcases hi with hi | hi | hi | hi
  ·exact .inl (h2 i (.inl hi))
  ·exact .inl (h2 i (.inr (.inl hi)))
  ·rcases k3 i hi with e | e
   ·exact .inl (h2 i (.inr (.inr (.inl e))))
   ·exact .inr ⟨e,(k1.tri.lt i hi).2⟩
  ·exact .inl (h2 i (.inr (.inr (.inr hi))))
 ·rcases hi with hi | hi
  ·exact Nat.lt_of_lt_of_le (h3 i hi) hst.size
  ·exact hi.2
 ·unfold mkR
  split
  ·rw [List.length_append]; exact Nat.add_le_add_right ht 1
  ·omega
theorem BOTm.make_x (h : BOTm a b c w wr l mb xb nm nt ns) (h64 : ∀ p,p ∈ l → pt64 p) (hb : nt ≤ 1000000) :
  Calls Tryz.prog 31 #[.pointer (some ⟨xb,0,none⟩),.int .i64 a,.int .i64 b,.int .i64 c] wr fun r w' => (∃ k : Int,r = .returned (.int .i64 k)) ∧ Hid (BOT w w' l mb xb nm (nt + 1) ns) := by
 obtain ⟨B,n,M,F,T,S,R,H,tw,fx,hP⟩ := h
 refine (H.made_x h64 hb a b c).mono ?_
 rintro r w' ⟨rfl,R', H'⟩
 refine ⟨⟨_,rfl⟩,B,n,_,F,_,S,R', H', ?_,by rw [makeR_fx]; exact fx⟩
 have := tw.make a b c
 rwa [hP] at this
theorem BOT.fix_m (h : BOT w wr l mb xb nm nt ns) (hb : nm ≤ 1000000) {a b : Int} (v : Int) (ha : i64ok a) (hb' : i64ok b) :
  Calls Tryz.prog 39 #[.pointer (some ⟨mb,0,none⟩),.int .i64 a,.int .i64 b,.int .i64 v] wr fun r w' => (∃ k : Int,r = .returned (.int .i64 k)) ∧ Hid (BOTf a b v w w' l mb xb (nm + 1) nt ns) := by
 obtain ⟨B,n,M,F,T,S,R,H,tw,fx⟩ := h
 have hn := H.hn
 have same : ¬(hasP l a = true ∧ hasP l b = true ∧ a ≠ b) → BOTf a b v w wr l mb xb (nm + 1) nt ns := fun hc => by
  refine ⟨B,n,M,F,T,S,R,?_,tw,fx,H.P⟩
  have e : fxR l M.fx a b v = M.fx := by unfold fxR; rw [if_neg hc]
  rw [e]
  exact ⟨H.m,H.x,H.sd,H.P,by omega,H.ht,H.hs,H.off,H.new⟩
 by_cases hx : hasM M a = true
 ·by_cases hy : hasM M b = true
  ·by_cases hab : a = b
   ·subst hab
    refine (fix_same H.m.at_ a v hx).mono ?_
    rintro r w' ⟨rfl,rfl⟩
    exact ⟨⟨_,rfl⟩,same (fun q => q.2.2 rfl)⟩
   ·refine (fix_ok2 H.m (by omega) ha hb' hx hy hab).mono ?_
    rintro r w' ⟨rfl,h1,h2⟩
    refine ⟨⟨_,rfl⟩,B,n + 1,M,F,T,S,R,?_,tw,fx,H.P⟩
    have e : fxR l M.fx a b v = upE M.fx (minI a b) (maxI a b) v := by
     unfold fxR
     rw [if_pos ⟨by rw [← H.P]; exact hx,by rw [← H.P]; exact hy,hab⟩]
    rw [e]
    exact ⟨h1,H.x.stay h2 H.off,fxM_sound15 H.sd _,H.P,by omega,H.ht,H.hs,H.off,H.new⟩
  ·refine (fix_none H.m.at_ a b v (.inr ⟨hx,by simpa using hy⟩)).mono ?_
   rintro r w' ⟨rfl,rfl⟩
   exact ⟨⟨_,rfl⟩,same (fun q => hy (by have := q.2.1; rw [← H.P] at this; exact this))⟩
 ·refine (fix_none H.m.at_ a b v (.inl (by simpa using hx))).mono ?_
  rintro r w' ⟨rfl,rfl⟩
  exact ⟨⟨_,rfl⟩,same (fun q => hx (by have := q.1; rw [← H.P] at this; exact this))⟩
theorem BOTf.fix_x (h : BOTf a b c w wr l mb xb nm nt ns) (hb : ns ≤ 1000000) :
  Calls Tryz.prog 40 #[.pointer (some ⟨xb,0,none⟩),.int .i64 a,.int .i64 b,.int .i64 c] wr fun r w' => (∃ k : Int,r = .returned (.int .i64 k)) ∧ Hid (BOT w w' l mb xb nm nt (ns + 1)) := by
 obtain ⟨B,n,M,F,T,S,R,H,tw,fx,hP⟩ := h
 obtain ⟨ad,cap,vT,vS,h1,h2,h3⟩ := H.x
 have hs := H.hs
 have same : ¬(hasP l a = true ∧ hasP l b = true ∧ a ≠ b) → BOT w wr l mb xb nm nt (ns + 1) := fun hc => by
  have e : fxR l M.fx a b c = M.fx := by unfold fxR; rw [if_neg hc]
  rw [e] at H
  exact ⟨B,n,M,F,T,S,R,⟨H.m,H.x,H.sd,H.P,H.hn,H.ht,by omega,H.off,H.new⟩,tw,fx⟩
 by_cases hx : hasP l a = true
 ·by_cases hy : hasP l b = true
  ·by_cases hab : a = b
   ·subst hab
    refine (fix15_same h1 a c hx).mono ?_
    rintro r w' ⟨rfl,rfl⟩
    exact ⟨⟨_,rfl⟩,same (fun q => q.2.2 rfl)⟩
   ·refine (fix15_main h1 (by omega) a b c hx hy hab).mono ?_
    rintro r w' ⟨rfl,S', vS', hp,k1,k2,k3⟩
    have hst : Stay R wr w' := k2.mono (fun i e => h2 i (.inl e))
    have hl : S'.length ≤ ns + 1 := by
     rw [hp.len]
     exact Nat.le_trans (Nat.succ_le_succ (List.length_filter_le _ _)) (by omega)
    refine ⟨⟨_,rfl⟩,B,n,_,F,T,S', _,H.turn_x hst ⟨ad,cap,vT,vS', k1,fun i hi => ?_,fun i hi => ?_⟩ H.ht hl,tw.fix _,?_⟩
    ·rcases hi with hi | hi | hi | hi
     ·exact .inl (h2 i (.inl hi))
     ·exact .inl (h2 i (.inr (.inl hi)))
     ·exact .inl (h2 i (.inr (.inr (.inl hi))))
     ·exact .inr ⟨k3 i hi,(k1.seg.lt i hi).2⟩
    ·rcases hi with hi | hi
     ·exact Nat.lt_of_lt_of_le (h3 i hi) hst.size
     ·exact hi.2
    ·show FixT (fxR l M.fx a b c) S'
     unfold fxR
     rw [if_pos ⟨hx,hy,hab⟩]
     exact fx.put hp
  ·refine (fix15_no h1 a b c (.inr ⟨hx,by simpa using hy⟩)).mono ?_
   rintro r w' ⟨rfl,rfl⟩
   exact ⟨⟨_,rfl⟩,same (fun q => hy q.2.1)⟩
 ·refine (fix15_no h1 a b c (.inl (by simpa using hx))).mono ?_
  rintro r w' ⟨rfl,rfl⟩
  exact ⟨⟨_,rfl⟩,same (fun q => hx q.1)⟩
end
theorem FixT.empty17 : FixT (fun _ _ => none) [] := ⟨List.Pairwise.nil,fun y => ⟨fun h => absurd h (by simp),fun h => (nomatch h)⟩⟩
theorem bot_new {w w1 w2 : World} {l : List Pt} {mb xb B : Nat} {F R : Nat → Prop} (hm : MB w w1 mb 0 (emptyM l) F) (hx : RM w2 B xb l [] [] R) (hb : Below w1.heap.size w1 w2) (hR : ∀ i,R i → w1.heap.size ≤ i) : BOT w w2 l mb xb 0 0 0 :=
 ⟨B,0,emptyM l,F,[],[],R,⟨hm.below hb,hx,emptyM_sound l,rfl,Nat.le_refl _,Nat.le_refl _,Nat.le_refl _,fun i hi e => by have := hm.at_.flt i e; have := hR i hi; omega,fun i hi => Nat.le_trans hm.keep.size (hR i hi)⟩,Twin.empty l,FixT.empty17⟩
theorem both17_t {w : World} {l : List Pt} {ap : Option Addr} {cp : Nat} {T : List Tri3} {at_ : Option Addr} {ct : Nat} {S : List Seg3} {sa : Option Addr} {cs : Nat} (h : GivenV w l ap cp T at_ ct S sa cs) (hk : allCode l = 0) (hl : l.length ≤ 60) (hT : T.length ≤ 120) (hS : S.length ≤ 60) :
  Calls Tryz.prog 16 #[.agg #[.slice ap l.length cp,.slice at_ T.length ct,.slice sa S.length cs]] w fun r w' => ∃ mb xb,r = .returned (.tuple #[.pointer (some ⟨mb,0,none⟩),.pointer (some ⟨xb,0,none⟩)]) ∧ Hid (∃ W0,Below w.heap.size w W0 ∧ BOT W0 w' l mb xb 1000 200 100) := by
 obtain ⟨W0,hW0⟩ : ∃ W0 : World,W0 = w.alloc (.cells #[.slice ap l.length cp,.slice at_ T.length ct,.slice sa S.length cs] 26) := ⟨_,rfl⟩
 have HB0 : Hid (Below w.heap.size w W0) := by rw [hW0]; exact (Below.refl _ _).alloc (Nat.le_refl _) _
 have HW0 := Lib.hid hW0
 have HG := Lib.hid (h.below HB0.out)
 have HC0 : Hid (C3 W0 w.heap.size (.slice ap l.length cp) (.slice at_ T.length ct) (.slice sa S.length cs)) := by rw [hW0]; exact C3.new _ _ _ _ _
 have HC : Hid (∀ W,Below W0.heap.size W0 W → C3 W w.heap.size (.slice ap l.length cp) (.slice at_ T.length ct) (.slice sa S.length cs)) := fun W hb => HC0.out.below hb
 have h1048 : l.length ≤ 1048576 := by omega
 have HN1 : Hid (Calls Tryz.prog 33 #[.slice ap l.length cp] W0 fun r w' => ∃ mb F,r = .returned (.tuple #[.pointer (some ⟨mb,0,none⟩),.int .i64 0]) ∧ MB W0 w' mb 0 (emptyM l) F ∧ Below W0.heap.size W0 w' ∧ ∀ i,F i → W0.heap.size ≤ i) := new_mb l ap cp h.p64 hk h1048 W0 W0 (Below.refl _ _) HG.out.p
 have HN2 : Hid (∀ W,Below W0.heap.size W0 W → Calls Tryz.prog 30 #[.slice ap l.length cp] W fun r w' => ∃ xb R,r = .returned (.tuple #[.pointer (some ⟨xb,0,none⟩),.int .i64 0]) ∧ RM w' W.heap.size xb l [] [] R ∧ Below W.heap.size W w' ∧ ∀ i,R i → W.heap.size ≤ i) := fun W hb => new15_ok l ap cp h.p64 hk h1048 W (HG.out.p.below hb)
 have HMM : Hid (∀ mb xb nm nt ns wr a b c,BOT W0 wr l mb xb nm nt ns → nm ≤ 1000 → Calls Tryz.prog 34 #[.pointer (some ⟨mb,0,none⟩),.int .i64 a,.int .i64 b,.int .i64 c] wr fun r w' => (∃ k : Int,r = .returned (.int .i64 k)) ∧ Hid (BOTm a b c W0 w' l mb xb (nm + 3) nt ns)) := fun mb xb nm nt ns wr a b c hx hn => hx.make_m h.p64 h1048 (by omega) a b c
 have HMX : Hid (∀ mb xb nm nt ns wr a b c,BOTm a b c W0 wr l mb xb nm nt ns → nt ≤ 1000 → Calls Tryz.prog 31 #[.pointer (some ⟨xb,0,none⟩),.int .i64 a,.int .i64 b,.int .i64 c] wr fun r w' => (∃ k : Int,r = .returned (.int .i64 k)) ∧ Hid (BOT W0 w' l mb xb nm (nt + 1) ns)) := fun mb xb nm nt ns wr a b c hx hn => hx.make_x h.p64 (by omega)
 have HFM : Hid (∀ mb xb nm nt ns wr a b c,BOT W0 wr l mb xb nm nt ns → nm ≤ 1000 → i64ok a → i64ok b → Calls Tryz.prog 39 #[.pointer (some ⟨mb,0,none⟩),.int .i64 a,.int .i64 b,.int .i64 c] wr fun r w' => (∃ k : Int,r = .returned (.int .i64 k)) ∧ Hid (BOTf a b c W0 w' l mb xb (nm + 1) nt ns)) := fun mb xb nm nt ns wr a b c hx hn ha hb => hx.fix_m (by omega) c ha hb
 have HFX : Hid (∀ mb xb nm nt ns wr a b c,BOTf a b c W0 wr l mb xb nm nt ns → ns ≤ 1000 → Calls Tryz.prog 40 #[.pointer (some ⟨xb,0,none⟩),.int .i64 a,.int .i64 b,.int .i64 c] wr fun r w' => (∃ k : Int,r = .returned (.int .i64 k)) ∧ Hid (BOT W0 w' l mb xb nm nt (ns + 1))) := fun mb xb nm nt ns wr a b c hx hn => hx.fix_x (by omega)
 have HT := Lib.hid hT
 have HS := Lib.hid hS
 clear h hk hl h1048 hT hS HC0 hW0
 go_enter Tryz.func16,Tryz.ntmps16
 go_upto_region 1 with fail
 rw [← HW0.out]
 obtain ⟨c0,c1,c2⟩ := HC.out W0 (Below.refl _ _)
 go_wp2_with (first
  |(go_at_call 33; (with_reducible refine HN1.out.mono ?_); rintro r w1 ⟨mb,F,rfl,hm,hb1,hF⟩; have HM1 := Lib.hid hm; have B1 := Lib.hid hb1; clear c0 c1 c2 hm hb1 hF; obtain ⟨c0,c1,c2⟩ := HC.out w1 B1.out)
  |(go_at_call 30; (with_reducible refine (HN2.out _ B1.out).mono ?_); rintro r w2 ⟨xb,R,rfl,hx,hb2,hR⟩; have HX2 := Lib.hid (bot_new HM1.out hx hb2 hR); clear c0 c1 c2 hx hb2 hR; obtain ⟨c0,c1,c2⟩ := HC.out w2 HX2.out.keep))
 clear HN1 HN2 HM1 B1 c0 c1 c2
 go_loopw [8] (fun s8 wr => ∃ i : Nat,i ≤ T.length ∧ s8 = .int .i64 i ∧ Hid (BOT W0 wr l mb xb (3 * i) i 0)) (fun s8 _ => T.length - (intOf s8).toNat)
 case atStart => exact ⟨0,Nat.zero_le _,rfl,HX2.out⟩
 case round =>
  obtain ⟨i,hi,rfl,HX⟩ := hrel
  obtain ⟨c0,c1,c2⟩ := HC.out _ HX.out.keep
  by_cases hlt : i < T.length
  ·obtain ⟨tb,to_,rfl,htb,htc⟩ := HG.out.t (by omega)
   have HTC : Hid (∀ W,Below W0.heap.size W0 W → W.cell? ⟨w.heap.size,1,none⟩ = some (.slice (some ⟨tb,to_,none⟩) T.length ct) ∧ W.cell? ⟨tb,to_ + i * 3,none⟩ = some (.int .i64 (T.getD i (0,0,0)).1) ∧ W.cell? ⟨tb,to_ + i * 3 + 1,none⟩ = some (.int .i64 (T.getD i (0,0,0)).2.1) ∧ W.cell? ⟨tb,to_ + i * 3 + 2,none⟩ = some (.int .i64 (T.getD i (0,0,0)).2.2)) := fun W hb => ⟨(HC.out W hb).2.1,cell_keep (htc i hlt).1 hb,cell_keep (htc i hlt).2.1 hb,cell_keep (htc i hlt).2.2 hb⟩
   clear htc
   generalize T.getD i (0,0,0) = tt at *
   obtain ⟨t0,t1,t2⟩ := tt
   dsimp only at HTC
   have hz : (i : Int) < (T.length : Int) := by omega
   have hi0 : (0 : Int) ≤ (i : Int) := by omega
   have hw1 : wrap64 ((i : Int) + 1) = (i : Int) + 1 := by have := HT.out; unfold wrap64; omega
   have HM8 := Lib.hid (HMM.out mb xb (3 * i) i 0 _ t0 t1 t2 HX.out.drew (by have := HT.out; omega))
   have n0 := HTC.out _ HX.out.drew.keep
   go_upto_region 8 with fail
   clear c0 c1 c2
   go_region_held3 (fun W => W.cell? ⟨w.heap.size,1,none⟩ = some (.slice (some ⟨tb,to_,none⟩) T.length ct) ∧ W.cell? ⟨tb,to_ + i * 3,none⟩ = some (.int .i64 t0) ∧ W.cell? ⟨tb,to_ + i * 3 + 1,none⟩ = some (.int .i64 t1) ∧ W.cell? ⟨tb,to_ + i * 3 + 2,none⟩ = some (.int .i64 t2)) (first | with_reducible exact n0 | with_reducible exact n1)
    (first | (go_at_call 34; (with_reducible refine HM8.out.mono ?_); rintro r w3 ⟨⟨k8,rfl⟩,HX3⟩; have n1 := HTC.out w3 HX3.out.keep))
   clear n0 n1 HM8
   have HM9 := Lib.hid (HMX.out mb xb (3 * i + 3) i 0 _ t0 t1 t2 HX3.out.drew (by have := HT.out; omega))
   have n0 := HTC.out _ HX3.out.drew.keep
   go_upto_region 9 with fail
   go_region_held3 (fun W => W.cell? ⟨w.heap.size,1,none⟩ = some (.slice (some ⟨tb,to_,none⟩) T.length ct) ∧ W.cell? ⟨tb,to_ + i * 3,none⟩ = some (.int .i64 t0) ∧ W.cell? ⟨tb,to_ + i * 3 + 1,none⟩ = some (.int .i64 t1) ∧ W.cell? ⟨tb,to_ + i * 3 + 2,none⟩ = some (.int .i64 t2)) (first | with_reducible exact n0 | with_reducible exact n1)
    (first | (go_at_call 31; (with_reducible refine HM9.out.mono ?_); rintro r w4 ⟨⟨k9,rfl⟩,HX4⟩; have n1 := HTC.out w4 HX4.out.keep))
   clear n0 n1 HM9
   go_wp2
   go_roundw
   case rel => exact ⟨i + 1,by omega,by (try rw [hw1]); rfl,by rw [show 3 * (i + 1) = 3 * i + 3 by omega]; exact HX4.out⟩
   case measure => (try rw [hw1]); simp only [intOf]; omega
  ·have e : i = T.length := by omega
   subst e
   have hz : ¬(T.length : Int) < (T.length : Int) := by omega
   have HXT := HX
   go_wp2
   clear hz c0 c1 c2
   go_loopw [9] (fun s9 wr => ∃ j : Nat,j ≤ S.length ∧ s9 = .int .i64 j ∧ Hid (BOT W0 wr l mb xb (3 * T.length + j) T.length j)) (fun s9 _ => S.length - (intOf s9).toNat)
   case atStart => exact ⟨0,Nat.zero_le _,rfl,HXT.out⟩
   case round =>
    clear HX HXT HX2
    obtain ⟨j,hj,rfl,HX⟩ := hrel
    obtain ⟨c0,c1,c2⟩ := HC.out _ HX.out.keep
    by_cases hlt : j < S.length
    ·obtain ⟨sb,so,rfl,hsb,hsc⟩ := HG.out.s (by omega)
     have HTC : Hid (∀ W,Below W0.heap.size W0 W → W.cell? ⟨w.heap.size,2,none⟩ = some (.slice (some ⟨sb,so,none⟩) S.length cs) ∧ W.cell? ⟨sb,so + j * 3,none⟩ = some (.int .i64 (S.getD j (0,0,0)).1) ∧ W.cell? ⟨sb,so + j * 3 + 1,none⟩ = some (.int .i64 (S.getD j (0,0,0)).2.1) ∧ W.cell? ⟨sb,so + j * 3 + 2,none⟩ = some (.int .i64 (S.getD j (0,0,0)).2.2)) := fun W hb => ⟨(HC.out W hb).2.2,cell_keep (hsc j hlt).1 hb,cell_keep (hsc j hlt).2.1 hb,cell_keep (hsc j hlt).2.2 hb⟩
     have HSI := Lib.hid (HG.out.si (S.getD j (0,0,0)) (getD_mem3 hlt))
     clear hsc
     generalize S.getD j (0,0,0) = ss at *
     obtain ⟨s0,s1,s2⟩ := ss
     dsimp only at HTC HSI
     have hz : (j : Int) < (S.length : Int) := by omega
     have hj0 : (0 : Int) ≤ (j : Int) := by omega
     have hw1 : wrap64 ((j : Int) + 1) = (j : Int) + 1 := by have := HS.out; unfold wrap64; omega
     have HM8 := Lib.hid (HFM.out mb xb (3 * T.length + j) T.length j _ s0 s1 s2 HX.out.drew (by have := HT.out; have := HS.out; omega) HSI.out.1 HSI.out.2.1)
     have n0 := HTC.out _ HX.out.drew.keep
     go_upto_region 13 with fail
     clear c0 c1 c2
     go_region_held3 (fun W => W.cell? ⟨w.heap.size,2,none⟩ = some (.slice (some ⟨sb,so,none⟩) S.length cs) ∧ W.cell? ⟨sb,so + j * 3,none⟩ = some (.int .i64 s0) ∧ W.cell? ⟨sb,so + j * 3 + 1,none⟩ = some (.int .i64 s1) ∧ W.cell? ⟨sb,so + j * 3 + 2,none⟩ = some (.int .i64 s2)) (first | with_reducible exact n0 | with_reducible exact n1)
      (first | (go_at_call 39; (with_reducible refine HM8.out.mono ?_); rintro r w3 ⟨⟨k8,rfl⟩,HX3⟩; have n1 := HTC.out w3 HX3.out.keep))
     clear n0 n1 HM8
     have HM9 := Lib.hid (HFX.out mb xb (3 * T.length + j + 1) T.length j _ s0 s1 s2 HX3.out.drew (by have := HS.out; omega))
     have n0 := HTC.out _ HX3.out.drew.keep
     go_upto_region 14 with fail
     go_region_held3 (fun W => W.cell? ⟨w.heap.size,2,none⟩ = some (.slice (some ⟨sb,so,none⟩) S.length cs) ∧ W.cell? ⟨sb,so + j * 3,none⟩ = some (.int .i64 s0) ∧ W.cell? ⟨sb,so + j * 3 + 1,none⟩ = some (.int .i64 s1) ∧ W.cell? ⟨sb,so + j * 3 + 2,none⟩ = some (.int .i64 s2)) (first | with_reducible exact n0 | with_reducible exact n1)
      (first | (go_at_call 40; (with_reducible refine HM9.out.mono ?_); rintro r w4 ⟨⟨k9,rfl⟩,HX4⟩; have n1 := HTC.out w4 HX4.out.keep))
     clear n0 n1 HM9
     go_wp2
     go_roundw
     case rel => exact ⟨j + 1,by omega,by (try rw [hw1]); rfl,HX4.out⟩
     case measure => (try rw [hw1]); simp only [intOf]; omega
    ·have e : j = S.length := by omega
     subst e
     have hz : ¬(S.length : Int) < (S.length : Int) := by omega
     go_wp2
     go_ret2
     refine ⟨_,_,rfl,W0,HB0.out,?_⟩
     obtain ⟨B,n,M,F,T', S', R,H,HTW,HFT⟩ := HX.out
     exact ⟨B,n,M,F,T', S', R,⟨H.m,H.x,H.sd,H.P,by have := H.hn; have := HT.out; have := HS.out; omega,by have := H.ht; have := HT.out; omega,by have := H.hs; have := HS.out; omega,H.off,H.new⟩,HTW,HFT⟩
end Go.Proofs.YtbagikgpgdlkcaaGreatDoor
