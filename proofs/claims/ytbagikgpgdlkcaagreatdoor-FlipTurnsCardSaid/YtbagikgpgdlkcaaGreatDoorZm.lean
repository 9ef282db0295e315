/- Part of the proof. No conditions. -/
import Derived.Test.YtbagikgpgdlkcaaGreatDoorZW
import Derived.Test.YtbagikgpgdlkcaaGreatDoorZg
import Derived.Test.YtbagikgpgdlkcaaGreatDoorZl
set_option linter.all false
set_option maxHeartbeats 8000000
set_option maxRecDepth 100000
namespace Go.Proofs.YtbagikgpgdlkcaaGreatDoor
open Go.RowKit Tvf Go.Maps Go.WideMaps
theorem tris_short17 (ap : Int → Int → Option Int) (n : Nat) : (trisL ap n).length ≤ n * n := by
 unfold trisL
 rw [List.length_map]
 exact Nat.le_trans (List.length_filter_le _ _) (Nat.le_of_eq (idxL_len n))
theorem del_gen {w : World} {mb n : Nat} {M : MeshM} {F : Nat → Prop} (h : MeshAt w mb n M F) (h64 : ∀ p,p ∈ M.P → pt64 p) (hok : ∀ p,p ∈ M.P → ptOK p = true) (hs : Sound M) (hl : M.P.length ≤ 1048576) {a b : Int} (ha : i64ok a) (hb : i64ok b) :
  Calls Tryz.prog 17 #[.pointer (some ⟨mb,0,none⟩),.int .i64 a,.int .i64 b] w fun r w' => r = .returned (.bool (delB M a b)) ∧ Below w.heap.size w w' := by
 unfold delB
 cases hq : shB M a b && mayB M a b
 ·rw [Bool.false_and]
  exact del_no h h64 hs hl ha hb hq
 ·rw [Bool.true_and]
  rw [Bool.and_eq_true] at hq
  obtain ⟨c,d,hc,hd,e1,e2,w1,w2,w3,w4,hsg⟩ := sh_points hs hq.1
  refine del_yes h h64 hs hl ha hb hq.1 hq.2 _ (fun W => ?_)
  rw [e1,e2]
  have pa := ptAt_ok h64 hok w1
  have pb := ptAt_ok h64 hok w2
  have pc := ptAt_ok h64 hok w3
  have pd := ptAt_ok h64 hok w4
  refine cwithin_all (fun p hp => ?_) ?_ hsg W
  ·simp only [List.mem_cons,List.not_mem_nil,or_false] at hp
   rcases hp with rfl | rfl | rfl | rfl
   ·exact pa.1
   ·exact pb.1
   ·exact pc.1
   ·exact pd.1
  ·simp only [List.all_cons,List.all_nil,pa.2,pb.2,pc.2,pd.2,Bool.and_true]
def tnM (M : MeshM) (a b : Int) : MeshM := if tnCode M a b = 0 then turnR M a b else M
theorem tnM_P (M : MeshM) (a b : Int) : (tnM M a b).P = M.P := by unfold tnM; split; exact turnR_P M a b; rfl
theorem tnM_fx (M : MeshM) (a b : Int) : (tnM M a b).fx = M.fx := by unfold tnM; split; exact turnR_fx M a b; rfl
theorem tnM_twin {M : MeshM} {T : List Tri3} (h : Twin M T) (a b : Int) : Twin (tnM M a b) (tnT M T a b) := by
 unfold tnM tnT
 split
 ·exact h.turn a b
 ·exact h
theorem tnT_len (M : MeshM) (T : List Tri3) (a b : Int) : (tnT M T a b).length ≤ T.length + 2 := by
 unfold tnT; split
 ·exact turnT_len M T a b
 ·omega
theorem turn_gen {w0 w : World} {mb n : Nat} {M : MeshM} {F : Nat → Prop} (h : MB w0 w mb n M F) (h64 : ∀ p,p ∈ M.P → pt64 p) (hs : Sound M) (hl : M.P.length ≤ 1048576) (hn : n ≤ 100000000) {a b : Int} (ha : i64ok a) (hb : i64ok b) :
  Calls Tryz.prog 13 #[.pointer (some ⟨mb,0,none⟩),.int .i64 a,.int .i64 b] w fun r w' => r = .returned (.int .i64 (tnCode M a b)) ∧ ∃ n' G,n' ≤ n + 12 ∧ MB w0 w' mb n' (tnM M a b) G ∧ Stay F w w' ∧ ∀ i,G i → F i ∨ w.heap.size ≤ i := by
 unfold tnM
 cases hsh : shB M a b
 ·have hc : tnCode M a b = 5 := by unfold tnCode; rw [if_pos hsh]
  rw [hc,if_neg (by decide)]
  refine (turn_none h.at_ ha hb hsh).mono ?_
  rintro r w' ⟨rfl,hb'⟩
  exact ⟨rfl,n,F,by omega,h.below hb', Stay.of_below hb', fun i e => .inl e⟩
 ·cases hm : mayB M a b
  ·have hc : tnCode M a b = 14 := by unfold tnCode; rw [if_neg (by rw [hsh]; simp),if_pos hm]
   rw [hc,if_neg (by decide)]
   refine (turn_no h.at_ h64 hs hl ha hb hsh hm).mono ?_
   rintro r w' ⟨rfl,hb'⟩
   exact ⟨rfl,n,F,by omega,h.below hb', Stay.of_below hb', fun i e => .inl e⟩
  ·have hc : tnCode M a b = 0 := by unfold tnCode; rw [if_neg (by rw [hsh]; simp),if_neg (by rw [hm]; simp)]
   rw [hc,if_pos rfl]
   refine (turn_ok h h64 hs hl hn ha hb hsh hm).mono ?_
   rintro r w' ⟨rfl,G,h1,h2,h3⟩
   exact ⟨rfl,n + 12,G,Nat.le_refl _,h1,h2,h3⟩
section
variable {w wr : World} {l : List Pt} {mb xb nm nt ns B n : Nat} {M : MeshM} {F : Nat → Prop} {T : List Tri3} {S : List Seg3} {R : Nat → Prop}
theorem BO.turn_m (H : BO w wr l mb xb nm nt ns B n M F T S R) (h64 : ∀ p,p ∈ l → pt64 p) (hl : l.length ≤ 1048576) (hn : nm ≤ 1000000) {a b : Int} (ha : i64ok a) (hb : i64ok b) :
  Calls Tryz.prog 13 #[.pointer (some ⟨mb,0,none⟩),.int .i64 a,.int .i64 b] wr fun r w' => r = .returned (.int .i64 (tnCode M a b)) ∧ Hid (∃ n' G,BO w w' l mb xb (nm + 12) nt ns B n' (tnM M a b) G T S R) := by
 have h1 := H.hn
 refine (turn_gen H.m (by rw [H.P]; exact h64) H.sd (by rw [H.P]; exact hl) (by omega) ha hb).mono ?_
 rintro r w' ⟨rfl,n', G,k1,k2,k3,k4⟩
 refine ⟨rfl,n', G,k2,H.x.stay k3 H.off,?_,(tnM_P M a b).trans H.P,by omega,H.ht,H.hs,fun i hi e => (k4 i e).elim (H.off i hi) (fun e => by have := H.x.lt i hi; omega),H.new⟩
 unfold tnM
 split
 ·exact turnR_sound H.sd a b
 ·exact H.sd
theorem BO.turn_x2 {M' : MeshM} (H : BO w wr l mb xb nm nt ns B n M' F T S R) (tw : Twin M T) (fx : FixT M.fx S) (hP : M.P = l) (h64 : ∀ p,p ∈ l → pt64 p) (hnt : nt ≤ 10000) (hns : ns ≤ 10000) (a b : Int) :
  Calls Tryz.prog 21 #[.pointer (some ⟨xb,0,none⟩),.int .i64 a,.int .i64 b] wr fun r w' => r = .returned (.int .i64 (tnCode M a b)) ∧ Hid (∃ R', BO w w' l mb xb nm (nt + 2) ns B n M' F (tnT M T a b) S R') := by
 obtain ⟨ad,cap,vT,vS,h1,h2,h3⟩ := H.x
 have ht := H.ht
 have hs := H.hs
 have h1' : RMs wr B xb M.P ad cap T vT S vS := by rw [hP]; exact h1
 refine (turn17 h1' tw fx (by rw [hP]; exact h64) (by omega) (by omega) a b).mono ?_
 rintro r w' ⟨rfl,vT', k1,k2,k3⟩
 rw [hP] at k1
 have hst : Stay R wr w' := k2.mono h2
 refine ⟨rfl,_,H.turn_x hst ⟨ad,cap,vT', vS,k1,fun i hi => ?_,fun i hi => ?_⟩ (Nat.le_trans (tnT_len M T a b) (by omega)) H.hs⟩
 ·rcases hi with hi | hi | hi | hi
  ·exact .inl (h2 i (.inl hi))
  ·exact .inl (h2 i (.inr (.inl hi)))
  ·rcases k3 i hi with e | e
   ·exact .inl (h2 i (.inr (.inr (.inl e))))
   ·exact .inr ⟨e,(k1.tri.lt i hi).2⟩
  ·exact .inl (h2 i (.inr (.inr (.inr hi))))
 ·rcases hi with hi | hi
  ·exact Nat.lt_of_lt_of_le (h3 i hi) hst.size
  ·exact hi.2
theorem sorted17 {ad g : Option Addr} {cap cp : Nat} {vS : Value} (h : RMs wr B xb l ad cap T (.slice g T.length cp) S vS) (tw : Twin M T) (hT : T.length ≤ 1000000) :
  Calls Tryz.prog 22 #[.slice g T.length cp] wr fun r w' => ∃ ad cap,r = .returned (.slice ad (trisL M.ap M.P.length).length cap) ∧ KCells encT w' ad (trisL M.ap M.P.length) ∧ Below wr.heap.size wr w' := by
 have hc : TCell wr g T := by
  intro i hi
  obtain ⟨b,hg,x0⟩ := h.tcell hi (k := 0) (by omega)
  obtain ⟨b1,hg1,x1⟩ := h.tcell hi (k := 1) (by omega)
  obtain ⟨b2,hg2,x2⟩ := h.tcell hi (k := 2) (by omega)
  rw [hg] at hg1 hg2
  cases hg1
  cases hg2
  refine ⟨b,0,hg,World.block_lt_of_cell? _ _ x0,?_⟩
  rw [Nat.zero_add]
  exact ⟨x0,x1,x2⟩
 refine (sorted15 (cap := cp) hc tw.ne tw.nodup hT).mono ?_
 rintro r w' ⟨v,L,rfl,HR,HS⟩
 have e := Srt.all tw HS.out
 subst e
 obtain ⟨ad,cap,rfl,hk,_⟩ := owns_kcells HR.out.own
 exact ⟨ad,cap,rfl,hk,HR.out.low⟩
end
def TSt (W0 w : World) (l : List Pt) (mb xb nm nt ns : Nat) (M : MeshM) (T : List Tri3) (S : List Seg3) (g s : Option Addr) (cg cs : Nat) : Prop :=
 ∃ B n F R ad cap,BO W0 w l mb xb nm nt ns B n M F T S R ∧ Twin M T ∧ FixT M.fx S ∧ RMs w B xb l ad cap T (.slice g T.length cg) S (.slice s S.length cs)
section
variable {W0 w W : World} {l : List Pt} {mb xb nm nt ns : Nat} {M : MeshM} {T : List Tri3} {S : List Seg3} {g s : Option Addr} {cg cs : Nat}
theorem BO.tst {B n : Nat} {F R : Nat → Prop} (H : BO W0 w l mb xb nm nt ns B n M F T S R) (tw : Twin M T) (fx : FixT M.fx S) : ∃ g s cg cs,TSt W0 w l mb xb nm nt ns M T S g s cg cs := by
 obtain ⟨ad,cap,vT,vS,h1,h2,h3⟩ := H.x
 obtain ⟨g,cg,rfl,_⟩ := h1.form
 obtain ⟨s,cs,rfl⟩ : ∃ s cs,vS = .slice s S.length cs := by
  rcases h1.seg.2 with ⟨rfl,h0⟩ | ⟨g,cp,cur,rfl,_⟩
  ·exact ⟨none,0,by rw [h0]⟩
  ·exact ⟨_,_,rfl⟩
 exact ⟨g,s,cg,cs,B,n,F,R,ad,cap,H,tw,fx,h1⟩
theorem TSt.below (h : TSt W0 w l mb xb nm nt ns M T S g s cg cs) (hb : Below w.heap.size w W) : TSt W0 W l mb xb nm nt ns M T S g s cg cs := by
 obtain ⟨B,n,F,R,ad,cap,H,tw,fx,h1⟩ := h
 exact ⟨B,n,F,R,ad,cap,H.low hb,tw,fx,h1.below hb⟩
theorem TSt.cells (h : TSt W0 w l mb xb nm nt ns M T S g s cg cs) : w.cell? ⟨xb,1,none⟩ = some (.slice g T.length cg) ∧ w.cell? ⟨xb,2,none⟩ = some (.slice s S.length cs) := by
 obtain ⟨B,n,F,R,ad,cap,H,tw,fx,h1⟩ := h
 exact h1.cells.2
theorem TSt.tris (h : TSt W0 w l mb xb nm nt ns M T S g s cg cs) (hl : l.length ≤ 1048576) :
  Calls Tryz.prog 11 #[.pointer (some ⟨mb,0,none⟩)] w fun r w' => ∃ ad cap,r = .returned (.slice ad (trisL M.ap M.P.length).length cap) ∧ KCells encT w' ad (trisL M.ap M.P.length) ∧ Below w.heap.size w w' := by
 obtain ⟨B,n,F,R,ad,cap,H,tw,fx,h1⟩ := h
 refine (tris_walk H.m.at_ tw.s.win (by rw [H.P]; exact hl)).mono ?_
 rintro r w' ⟨v,rfl,ho,hb⟩
 obtain ⟨ad,cap,rfl,hc,hg⟩ := owns_kcells ho
 exact ⟨ad,cap,rfl,hc,hb⟩
theorem TSt.sorted (h : TSt W0 w l mb xb nm nt ns M T S g s cg cs) (ht : nt ≤ 1000000) :
  Calls Tryz.prog 22 #[.slice g T.length cg] w fun r w' => ∃ ad cap,r = .returned (.slice ad (trisL M.ap M.P.length).length cap) ∧ KCells encT w' ad (trisL M.ap M.P.length) ∧ Below w.heap.size w w' := by
 obtain ⟨B,n,F,R,ad,cap,H,tw,fx,h1⟩ := h
 have := H.ht
 exact sorted17 h1 tw (by omega)
theorem TSt.fixes (h : TSt W0 w l mb xb nm nt ns M T S g s cg cs) (hs : ns ≤ 1000000) :
  Calls Tryz.prog 24 #[.pointer (some ⟨mb,0,none⟩)] w fun r w' => ∃ ad cap,r = .returned (.slice ad S.length cap) ∧ KCells encS w' ad S ∧ Below w.heap.size w w' := by
 obtain ⟨B,n,F,R,ad,cap,H,tw,fx,h1⟩ := h
 have := H.hs
 exact fixes_mb H.m.at_ fx (by omega)
theorem TSt.segs (h : TSt W0 w l mb xb nm nt ns M T S g s cg cs) : KCells encS w s S := by
 obtain ⟨B,n,F,R,ad,cap,H,tw,fx,h1⟩ := h
 obtain ⟨ad', cap', e,hc,_⟩ := owns_kcells h1.seg
 cases e
 exact hc
theorem TSt.bot (h : TSt W0 w l mb xb nm nt ns M T S g s cg cs) : BOT W0 w l mb xb nm nt ns := by
 obtain ⟨B,n,F,R,ad,cap,H,tw,fx,h1⟩ := h
 exact ⟨B,n,M,F,T,S,R,H,tw,fx⟩
theorem TSt.len (h : TSt W0 w l mb xb nm nt ns M T S g s cg cs) (hl : l.length ≤ 100) (hs : ns ≤ 10000) : (trisL M.ap M.P.length).length ≤ 10000 ∧ S.length ≤ 10000 := by
 obtain ⟨B,n,F,R,ad,cap,H,tw,fx,h1⟩ := h
 have h3 := tris_short17 M.ap M.P.length
 have h4 : M.P.length ≤ 100 := by rw [H.P]; exact hl
 have h5 : M.P.length * M.P.length ≤ 100 * 100 := Nat.mul_le_mul h4 h4
 have := H.hs
 omega
end
end Go.Proofs.YtbagikgpgdlkcaaGreatDoor
