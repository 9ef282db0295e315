/- Part of the proof. No conditions. -/
import Derived.Test.YtbagikgpgdlkcaaGreatDoorZT
set_option linter.all false
set_option maxHeartbeats 8000000
set_option maxRecDepth 100000
namespace Go.Proofs.YtbagikgpgdlkcaaGreatDoor
open Go.RowKit Tvf Go.Maps Go.WideMaps
theorem owns_list {base : Nat} {w : World} {v : Value} {l : List (Int × Int)} (h : w.ownsRow base 42 2 v l.length (cellsK encP l)) :
  ∃ ad cap,v = .slice ad l.length cap ∧ l.length ≤ cap ∧ KCells encP w ad l ∧ (∀ g,ad = some g → v.ownBlock = some g.block ∧ g.block < w.heap.size) := by
 obtain ⟨ad,cap,rfl,hk,hg⟩ := owns_kcells h
 refine ⟨ad,cap,rfl,?_,hk,fun g e => ⟨by subst e; rfl,(hg g e).2⟩⟩
 rcases h.2 with ⟨_,e⟩ | ⟨g', c', cur,e,_,_,hle,_⟩
 ·omega
 ·cases e; exact hle
theorem kcells_nil {w : World} {ad : Option Addr} {l : List (Int × Int)} (h : KCells encP w ad l) : ad = none → l.length = 0 := fun e => Nat.eq_zero_of_not_pos (fun h0 => by obtain ⟨g,hg,_⟩ := h h0; rw [e] at hg; cases hg)
structure Stg where
 M : MeshM
 L : List (Int × Int)
 n : Nat
def Stg.s0 (s : Stg) : SS := ⟨s.M,s.L,s.L,0⟩
def stNext (D : MeshM → Int → Int → Bool) (K : Nat) (s : Stg) : Stg := ⟨(sRun D s.s0 K).M,(sRun D s.s0 K).S,s.n + (sRun D s.s0 K).n⟩
def stRun (D : MeshM → Int → Int → Bool) (K : Nat → Nat) (s : Stg) : Nat → Stg
 | 0 => s
 | r + 1 => stNext D (K r) (stRun D K s r)
structure GoodT (D : MeshM → Int → Int → Bool) (K : Nat) (s : Stg) : Prop where
 ll : s.L.length ≤ 1000000
 good : ∀ k,k < K → GoodS D (sRun D s.s0 k)
 fin : (sRun D s.s0 K).L = []
 tot : s.n + (sRun D s.s0 K).n ≤ 100000
theorem stRun_keep (D : MeshM → Int → Int → Bool) (K : Nat → Nat) (s : Stg) (hs : Sound s.M) : ∀ r,Sound (stRun D K s r).M ∧ (stRun D K s r).M.P = s.M.P
 | 0 => ⟨hs,rfl⟩
 | r + 1 => by
  obtain ⟨h1,h2⟩ := stRun_keep D K s hs r
  obtain ⟨h3,h4⟩ := sRun_keep D (stRun D K s r).s0 h1 (K r)
  exact ⟨h3,h4.trans h2⟩
theorem wrap_tot {a b : Nat} (h : a + b ≤ 100000) : wrap64 ((a : Int) + (b : Int)) = ((a + b : Nat) : Int) := by unfold wrap64; omega
theorem Settle_walk {w0 w : World} {mb n : Nat} {M : MeshM} {F : Nat → Prop} (h : MB w0 w mb n M F) (h64 : ∀ p,p ∈ M.P → pt64 p) (hs : Sound M) (hl : M.P.length ≤ 1048576) (hn : n ≤ 1000000) {L : List (Int × Int)} {ad : Option Addr} {cap : Nat} (hcap : L.length ≤ cap) (hk : KCells encP w ad L)
  (hoff : ∀ g,ad = some g → ¬F g.block ∧ g.block < w.heap.size) (D : MeshM → Int → Int → Bool) (K : Nat → Nat) (R : Nat) (hgood : ∀ r,r ≤ R → GoodT D (K r) (stRun D K ⟨M,L,0⟩ r)) (hgo : ∀ r,r < R → (sRun D (stRun D K ⟨M,L,0⟩ r).s0 (K r)).n ≠ 0) (hend : (sRun D (stRun D K ⟨M,L,0⟩ R).s0 (K R)).n = 0) :
  Calls Tryz.prog 26 #[.pointer (some ⟨mb,0,none⟩),.slice ad L.length cap] w fun r w' => r = .returned (.tuple #[.int .i64 (stRun D K ⟨M,L,0⟩ R).n,.int .i64 0]) ∧ ∃ G,
   MB w0 w' mb (n + 12 * (stRun D K ⟨M,L,0⟩ R).n) (stRun D K ⟨M,L,0⟩ (R + 1)).M G ∧ Stay F w w' ∧ ∀ i,G i → F i ∨ w.heap.size ≤ i := by
 have HKP := Lib.hid (stRun_keep D K ⟨M,L,0⟩ hs)
 have HGD := Lib.hid hgood
 have HGO := Lib.hid hgo
 have HEN := Lib.hid hend
 have HMB := Lib.hid h
 have H64 := Lib.hid h64
 have HL := Lib.hid hl
 have HNN := Lib.hid hn
 have HKC := Lib.hid hk
 have HOF := Lib.hid hoff
 clear h h64 hs hl hn hk hoff hgood hgo hend
 obtain ⟨RUN,HRUN⟩ : ∃ RUN : Nat → Stg,Hid (RUN = stRun D K ⟨M,L,0⟩) := ⟨_,rfl⟩
 have HRS : Hid (∀ r,RUN (r + 1) = stNext D (K r) (RUN r)) := fun r => by rw [HRUN.out]; rfl
 have HR0 : Hid (RUN 0 = ⟨M,L,0⟩) := by unfold Hid; rw [HRUN.out]; rfl
 rw [← HRUN.out] at HKP HGD HGO HEN ⊢
 clear HRUN
 go_enter Tryz.func26,Tryz.ntmps26
 go_wp2
 go_loopg [1,6] R (fun gk s1 s6 wr => ∃ (r : Nat) (G : Nat → Prop) (ad' : Option Addr) (c : Nat),r + gk = R ∧ s1 = .slice ad' (RUN r).L.length c ∧ (RUN r).L.length ≤ c ∧ s6 = .int .i64 (RUN r).n ∧ Hid (MB w0 wr mb (n + 12 * (RUN r).n) (RUN r).M G) ∧ Hid (KCells encP wr ad' (RUN r).L ∧ ∀ g,ad' = some g → ¬G g.block ∧ g.block < wr.heap.size) ∧ Hid (Stay F w wr ∧ ∀ i,G i → F i ∨ w.heap.size ≤ i))
 case atStart =>
  refine ⟨0,F,ad,cap,by omega,?_,?_,?_,?_,?_,Stay.refl _ _,fun i hi => .inl hi⟩
  all_goals rw [HR0.out]
  ·exact hcap
  ·rfl
  ·exact HMB.out
  ·exact ⟨HKC.out,HOF.out⟩
 case round =>
  obtain ⟨r,G,ad', c,hrg,rfl,hrc,rfl,HM,HLC,HST⟩ := hrel
  have hrR : r ≤ R := by omega
  have HGT := Lib.hid (HGD.out r hrR)
  have HSET : Hid (Calls Tryz.prog 61 #[.pointer (some ⟨mb,0,none⟩),.slice ad' (RUN r).L.length c] wr fun r' w' => ∃ v,r' = .returned (.tuple #[.int .i64 (sRun D (RUN r).s0 (K r)).n,v]) ∧ ∃ G', Hid (w'.ownsRow wr.heap.size 42 2 v (sRun D (RUN r).s0 (K r)).S.length (cellsK encP (sRun D (RUN r).s0 (K r)).S) ∧ (∀ b,v.ownBlock = some b → ¬G' b) ∧
   MB w0 w' mb (n + 12 * (RUN r).n + 12 * (sRun D (RUN r).s0 (K r)).n) (sRun D (RUN r).s0 (K r)).M G' ∧ Stay G wr w' ∧ ∀ i,G' i → G i ∨ wr.heap.size ≤ i)) := by
   have h1 := HGT.out.tot
   refine (settle_walk HM.out (by rw [(HKP.out r).2]; exact H64.out) (HKP.out r).1 (by rw [(HKP.out r).2]; exact HL.out) (by have := HNN.out; omega) HGT.out.ll hrc HLC.out.1 (kcells_nil HLC.out.1) HLC.out.2 D (K r) HGT.out.good HGT.out.fin).mono ?_
   rintro r' w' ⟨v,G', rfl,h2,h3,h4,h5,h6⟩
   exact ⟨v,rfl,G', h2,h3,h4,h5,h6⟩
  have HNX := Lib.hid (HRS.out r)
  have HTT := Lib.hid (wrap_tot HGT.out.tot)
  by_cases hE : r = R
  ·subst hE
   have hz := HEN.out
   rw [hz] at HSET
   go_wp2_with (go_at_call 61; refine HSET.out.mono ?_; rintro r' w2 ⟨v,rfl,G', H2⟩)
   go_ret2
   obtain ⟨h2,h3,h4,h5,h6⟩ := H2.out
   refine ⟨rfl,G', ?_,HST.out.1.trans (h5.mono fun i hi => HST.out.2 i hi),fun i hi => ?_⟩
   ·rw [HNX.out]; exact h4
   ·rcases h6 i hi with e | e
    ·exact HST.out.2 i e
    ·exact .inr (Nat.le_trans HST.out.1.size e)
  ·have hlt : r < R := by omega
   obtain ⟨gk', rfl⟩ : ∃ x,gk = x + 1 := ⟨gk - 1,by omega⟩
   have hnz : ¬((sRun D (RUN r).s0 (K r)).n : Int) = 0 := by have := HGO.out r hlt; omega
   have HTT' := HTT.out
   go_wp2_with (go_at_call 61; refine HSET.out.mono ?_; rintro r' w2 ⟨v,rfl,G', H2⟩)
   go_roundg gk'
   case rel =>
    obtain ⟨h2,h3,h4,h5,h6⟩ := H2.out
    obtain ⟨ad2,cap2,rfl,hc2,hk2,hb2⟩ := owns_list h2
    refine ⟨r + 1,G', ad2,cap2,by omega,?_⟩
    rw [HNX.out]
    refine ⟨rfl,hc2,by rw [HTT']; rfl,?_,⟨hk2,fun g e => ⟨h3 _ (hb2 g e).1,(hb2 g e).2⟩⟩,HST.out.1.trans (h5.mono fun i hi => HST.out.2 i hi),fun i hi => ?_⟩
    ·have e : n + 12 * (RUN r).n + 12 * (sRun D (RUN r).s0 (K r)).n = n + 12 * (stNext D (K r) (RUN r)).n := by show _ = n + 12 * ((RUN r).n + (sRun D (RUN r).s0 (K r)).n); omega
     rw [← e]; exact h4
    ·rcases h6 i hi with e | e
     ·exact HST.out.2 i e
     ·exact .inr (Nat.le_trans HST.out.1.size e)
   case measure => exact Nat.lt_succ_self _
theorem All_walk {w0 w : World} {mb n : Nat} {M : MeshM} {F : Nat → Prop} (h : MB w0 w mb n M F) (h64 : ∀ p,p ∈ M.P → pt64 p) (hs : Sound M) (hl : M.P.length ≤ 1048576) (hn : n ≤ 1000000) (D : MeshM → Int → Int → Bool) (K : Nat → Nat) (R : Nat) (hgood : ∀ r,r ≤ R → GoodT D (K r) (stRun D K ⟨M,edgeL M.ap M.P.length,0⟩ r))
  (hgo : ∀ r,r < R → (sRun D (stRun D K ⟨M,edgeL M.ap M.P.length,0⟩ r).s0 (K r)).n ≠ 0) (hend : (sRun D (stRun D K ⟨M,edgeL M.ap M.P.length,0⟩ R).s0 (K R)).n = 0) :
  Calls Tryz.prog 27 #[.pointer (some ⟨mb,0,none⟩)] w fun r w' => r = .returned (.tuple #[.int .i64 (stRun D K ⟨M,edgeL M.ap M.P.length,0⟩ R).n,.int .i64 0]) ∧ ∃ G,
   MB w0 w' mb (n + 12 * (stRun D K ⟨M,edgeL M.ap M.P.length,0⟩ R).n) (stRun D K ⟨M,edgeL M.ap M.P.length,0⟩ (R + 1)).M G ∧ Stay F w w' ∧ ∀ i,G i → F i ∨ w.heap.size ≤ i := by
 have HE : Hid (Calls Tryz.prog 25 #[.pointer (some ⟨mb,0,none⟩)] w fun r w' => ∃ v,r = .returned v ∧ Hid (∃ ad cap,v = .slice ad (edgeL M.ap M.P.length).length cap ∧ (edgeL M.ap M.P.length).length ≤ cap ∧ KCells encP w' ad (edgeL M.ap M.P.length) ∧ (∀ g,ad = some g → ¬F g.block ∧ g.block < w'.heap.size) ∧ Below w.heap.size w w')) := by
  refine (edges_walk h.at_ hs.win hs.rot hl).mono ?_
  rintro r w' ⟨v,rfl,ho,hb⟩
  obtain ⟨ad,cap,rfl,hc,hk,hg⟩ := owns_list ho
  exact ⟨_,rfl,ad,cap,rfl,hc,hk,fun g e => ⟨fun hf => by have := h.at_.flt _ hf; have := (ho.lt _ (hg g e).1).1; omega,(hg g e).2⟩,hb⟩
 have HS : Hid (∀ w1 ad cap,(edgeL M.ap M.P.length).length ≤ cap → KCells encP w1 ad (edgeL M.ap M.P.length) → (∀ g,ad = some g → ¬F g.block ∧ g.block < w1.heap.size) → Below w.heap.size w w1 → Calls Tryz.prog 26 #[.pointer (some ⟨mb,0,none⟩),.slice ad (edgeL M.ap M.P.length).length cap] w1 fun r w' => r = .returned (.tuple #[.int .i64 (stRun D K ⟨M,edgeL M.ap M.P.length,0⟩ R).n,.int .i64 0]) ∧ Hid (∃ G,
   MB w0 w' mb (n + 12 * (stRun D K ⟨M,edgeL M.ap M.P.length,0⟩ R).n) (stRun D K ⟨M,edgeL M.ap M.P.length,0⟩ (R + 1)).M G ∧ Stay F w w' ∧ ∀ i,G i → F i ∨ w.heap.size ≤ i)) := by
  intro w1 ad cap hc hk ho hb
  refine (Settle_walk (h.below hb) h64 hs hl hn hc hk ho D K R hgood hgo hend).mono ?_
  rintro r w' ⟨rfl,G,h1,h2,h3⟩
  exact ⟨rfl,G,h1,(Stay.of_below hb).trans (h2.mono fun i hi => .inl hi),fun i hi => (h3 i hi).imp id (fun e => Nat.le_trans hb.size e)⟩
 clear h h64 hs hl hn hgood hgo hend
 generalize (stRun D K ⟨M,edgeL M.ap M.P.length,0⟩ R).n = tot at *
 generalize (stRun D K ⟨M,edgeL M.ap M.P.length,0⟩ (R + 1)).M = MZ at *
 generalize edgeL M.ap M.P.length = L at *
 go_enter Tryz.func27,Tryz.ntmps27
 go_wp2_with (first
  |(go_at_call 25; refine HE.out.mono ?_; rintro r w1 ⟨v,rfl,H1⟩; obtain ⟨ad,cap,rfl,h2,h3,h4,h5⟩ := H1.out)
  |(go_at_call 26; refine (HS.out _ _ _ h2 h3 h4 h5).mono ?_; rintro r w2 ⟨rfl,H2⟩))
 go_ret2
 exact ⟨rfl,H2.out⟩
end Go.Proofs.YtbagikgpgdlkcaaGreatDoor
namespace Go.Proofs.YtbagikgpgdlkcaaGreatDoor
open Go.RowKit Go.Maps Go.WideMaps
structure CRows (w : World) (base : Nat) (lf : Value → Bool) (sv sv2 : Int → Option Value) (sp : Int → List Int) : Prop where
 non : ∀ a,sv2 a = Option.none → sv a = Option.none ∨ lf (vI a) = true
 own : ∀ a v,sv2 a = some v → w.ownsInts base 3 .i64 v (sp a)
 dis : ∀ a a' v v', a ≠ a' → sv2 a = some v → sv2 a' = some v' → v.ownBlock = Option.none ∨ v.ownBlock ≠ v'.ownBlock
structure Head (w w1 : World) (mb ba bs bf n : Nat) (pv : Value) (M : MeshM) : Prop where
 c0 : w1.cell? ⟨mb,0,none⟩ = some pv
 c1 : w1.cell? ⟨mb,1,none⟩ = some (.map (some ba))
 c2 : w1.cell? ⟨mb,2,none⟩ = some (.map (some bs))
 c3 : w1.cell? ⟨mb,3,none⟩ = some (.int .i64 M.cnt)
 c4 : w1.cell? ⟨mb,4,none⟩ = some (.map (some bf))
 fz : ∀ i,w1.frozen? ⟨mb,i,none⟩ = false
 pts : w1.ownsRow w.heap.size 68 2 pv M.P.length (cellsP M.P)
 apm : FMap Tryz.prog w1 80 ba n (edgeV M.ap)
 fxm : FMap Tryz.prog w1 80 bf n (edgeV M.fx)
 spm : FMap Tryz.prog w1 3 bs 0 (intV fun _ => none)
 nab : ba ≠ bs
 naf : ba ≠ bf
 nsf : bs ≠ bf
 npm : pv.ownBlock ≠ some mb
 nps : pv.ownBlock ≠ some bs
 nmb : mb ≠ bs
 lo : w.heap.size ≤ mb ∧ w.heap.size ≤ ba ∧ w.heap.size ≤ bs ∧ w.heap.size ≤ bf
 hi : mb < w1.heap.size
 bel : Below w.heap.size w w1
theorem MB.apart {w0 w w' : World} {mb n : Nat} {M : MeshM} {F G : Nat → Prop} (h : MB w0 w mb n M F) (hs : Stay G w w') (hk : Below w0.heap.size w0 w') (hd : ∀ i,F i → ¬G i) : MB w0 w' mb n M F :=
 ⟨h.at_.same hs.size fun g hg => hs.block g (h.at_.flt g hg) (hd g hg),h.new,hk⟩
end Go.Proofs.YtbagikgpgdlkcaaGreatDoor
namespace Go.Proofs.YtbagikgpgdlkcaaGreatDoor
open Go.RowKit Tvf
end Go.Proofs.YtbagikgpgdlkcaaGreatDoor
