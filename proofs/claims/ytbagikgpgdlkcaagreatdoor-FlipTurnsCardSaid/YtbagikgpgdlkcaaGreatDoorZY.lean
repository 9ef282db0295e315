/- Part of the proof. No conditions. -/
import Derived.Test.YtbagikgpgdlkcaaGreatDoorZX
set_option linter.all false
set_option maxHeartbeats 8000000
set_option maxRecDepth 100000
namespace Go.Proofs.YtbagikgpgdlkcaaGreatDoor
open Go.RowKit Tvf Go.Maps Go.WideMaps
theorem has15 {w : World} {B xb : Nat} {P : List Pt} {ad : Option Addr} {cap : Nat} {T : List Tri3} {vT : Value} {S : List Seg3} {vS : Value} (h : RMs w B xb P ad cap T vT S vS) (i : Int) :
  Calls Tryz.prog 63 #[.pointer (some ⟨xb,0,none⟩),.int .i64 i] w fun r w' => r = .returned (.bool (hasP P i)) ∧ w' = w := by
 have c0 := h.cells.1
 unfold hasP
 clear h
 generalize P.length = L at *
 by_cases h0 : 0 ≤ i
 ·by_cases h1 : i < (L : Int)
  all_goals
   go_enter Tryz.func63,Tryz.ntmps63
   go_wp2
   go_ret
   first | (simp [h0]; done) | (simp [h0]; omega)
 ·go_enter Tryz.func63,Tryz.ntmps63
  go_wp2
  go_ret
  simp; omega
theorem apR_none {T : List Tri3} {a b : Int} (h : ∀ j,j < T.length → apT (T.getD j (0,0,0)) a b = none) : apR T a b = none := by
 unfold apR
 rw [List.findSome?_eq_none_iff]
 intro t ht
 obtain ⟨j,hj,rfl⟩ := List.getElem_of_mem ht
 have := h j hj
 rwa [List.getD_eq_getElem?_getD,List.getElem?_eq_getElem hj] at this
theorem apR_at {T : List Tri3} {a b c : Int} {i : Nat} (hi : i < T.length) (h : ∀ j,j < i → apT (T.getD j (0,0,0)) a b = none) (hc : apT (T.getD i (0,0,0)) a b = some c) : apR T a b = some c := by
 have e : T = T.take i ++ T.getD i (0,0,0) :: T.drop (i + 1) := by
  rw [List.getD_eq_getElem?_getD,List.getElem?_eq_getElem hi]
  simp
 have h1 : apR (T.take i) a b = none := apR_none (fun j hj => by
  rw [List.length_take] at hj
  have := h j (by omega)
  rwa [List.getD_eq_getElem?_getD,List.getElem?_take,if_pos (by omega),← List.getD_eq_getElem?_getD])
 unfold apR at h1 ⊢
 rw [e,List.findSome?_append,h1]
 simp only [List.findSome?_cons,hc,Option.none_or]
theorem tri_cells {w : World} {B : Nat} {g cap : Nat} {T : List Tri3} (h : w.ownsRow B 61 3 (.slice (some ⟨g,0,none⟩) T.length cap) T.length (cellsK encT T)) {i : Nat} (hi : i < T.length) :
  w.cell? ⟨g,i * 3,none⟩ = some (.int .i64 (T.getD i (0,0,0)).1) ∧ w.cell? ⟨g,i * 3 + 1,none⟩ = some (.int .i64 (T.getD i (0,0,0)).2.1) ∧ w.cell? ⟨g,i * 3 + 2,none⟩ = some (.int .i64 (T.getD i (0,0,0)).2.2) := by
 have e : T.getD i (0,0,0) = T[i] := by rw [List.getD_eq_getElem?_getD,List.getElem?_eq_getElem hi]; rfl
 have hk : ∀ x : Tri3,(encT x).length = 3 := fun _ => rfl
 rw [e,h.cellAt (i * 3) (by omega),h.cellAt (i * 3 + 1) (by omega),h.cellAt (i * 3 + 2) (by omega)]
 have h0 := cellsK_at hk T i hi 0 (by omega)
 rw [Nat.add_zero] at h0
 exact ⟨h0,cellsK_at hk T i hi 1 (by omega),cellsK_at hk T i hi 2 (by omega)⟩
def tvT (t : Tri3) (k : Nat) : Int := if k = 0 then t.1 else if k = 1 then t.2.1 else t.2.2
theorem apT_at {t : Tri3} {a b : Int} {k : Nat} (hk : k < 3) (h : ∀ j,j < k → ¬(tvT t j = a ∧ tvT t ((j + 1) % 3) = b)) (h1 : tvT t k = a) (h2 : tvT t ((k + 1) % 3) = b) : apT t a b = some (tvT t ((k + 2) % 3)) := by
 have h4 : k = 0 ∨ k = 1 ∨ k = 2 := by omega
 unfold apT
 rcases h4 with rfl | rfl | rfl
 ·have h1' : t.1 = a := h1
  have h2' : t.2.1 = b := h2
  rw [if_pos ⟨h1', h2'⟩]; rfl
 ·have e0 : ¬(t.1 = a ∧ t.2.1 = b) := h 0 (by omega)
  have h1' : t.2.1 = a := h1
  have h2' : t.2.2 = b := h2
  rw [if_neg e0,if_pos ⟨h1', h2'⟩]; rfl
 ·have e0 : ¬(t.1 = a ∧ t.2.1 = b) := h 0 (by omega)
  have e1 : ¬(t.2.1 = a ∧ t.2.2 = b) := h 1 (by omega)
  have h1' : t.2.2 = a := h1
  have h2' : t.1 = b := h2
  rw [if_neg e0,if_neg e1,if_pos ⟨h1', h2'⟩]; rfl
theorem apT_no {t : Tri3} {a b : Int} (h : ∀ j,j < 3 → ¬(tvT t j = a ∧ tvT t ((j + 1) % 3) = b)) : apT t a b = none := by
 have e0 : ¬(t.1 = a ∧ t.2.1 = b) := h 0 (by omega)
 have e1 : ¬(t.2.1 = a ∧ t.2.2 = b) := h 1 (by omega)
 have e2 : ¬(t.2.2 = a ∧ t.1 = b) := h 2 (by omega)
 unfold apT
 rw [if_neg e0,if_neg e1,if_neg e2]
theorem apex15 {w : World} {B xb : Nat} {P : List Pt} {ad : Option Addr} {cap : Nat} {T : List Tri3} {vT : Value} {S : List Seg3} {vS : Value} (h : RMs w B xb P ad cap T vT S vS) (hT : T.length ≤ 1000000) (a b : Int) :
  Calls Tryz.prog 51 #[.pointer (some ⟨xb,0,none⟩),.int .i64 a,.int .i64 b] w fun r w' => r = .returned (.tuple #[.int .i64 ((apR T a b).getD 0),.bool (apR T a b).isSome]) ∧ w' = w := by
 have c1 := h.cells.2.1
 have HT := Lib.hid hT
 obtain ⟨g,cp,n,hv,hn⟩ : ∃ g cp n,vT = .slice g n cp ∧ n = T.length := by
  rcases h.tri.2 with ⟨rfl,h0⟩ | ⟨g,cp,cur,rfl,_⟩
  ·exact ⟨none,0,0,rfl,h0.symm⟩
  ·exact ⟨_,_,_,rfl,rfl⟩
 subst hv
 have HG : Hid (∀ i,i < n → ∃ b,g = some ⟨b,0,none⟩ ∧ ∀ k,k < 3 → w.cell? ⟨b,i * 3 + k,none⟩ = some (.int .i64 (tvT (T.getD i (0,0,0)) k))) := fun i hi => by
  have ho := h.tri
  rcases ho.2 with ⟨_,h0⟩ | ⟨b,cp', cur,e,_⟩
  ·omega
  ·cases e
   obtain ⟨x0,x1,x2⟩ := tri_cells ho (i := i) (by omega)
   refine ⟨b,rfl,fun k hk => ?_⟩
   have h4 : k = 0 ∨ k = 1 ∨ k = 2 := by omega
   rcases h4 with rfl | rfl | rfl
   ·exact x0
   ·exact x1
   ·exact x2
 have HF : Hid (∀ i c,i < n → (∀ j,j < i → apT (T.getD j (0,0,0)) a b = none) → apT (T.getD i (0,0,0)) a b = some c → apR T a b = some c) := fun i c hi h1 h2 => apR_at (by omega) h1 h2
 have HNO : Hid ((∀ j,j < n → apT (T.getD j (0,0,0)) a b = none) → apR T a b = none) := fun h1 => apR_none (fun j hj => h1 j (by omega))
 have HN : Hid (n ≤ 1000000) := by have := HT.out; unfold Hid; omega
 clear h hT HT hn
 generalize apR T a b = RR at *
 go_enter Tryz.func51,Tryz.ntmps51
 go_wp2
 go_loop [8] (fun s8 => ∃ i : Nat,i ≤ n ∧ s8 = .int .i64 i ∧ Hid (∀ j,j < i → apT (T.getD j (0,0,0)) a b = none)) (fun s8 => n - (intOf s8).toNat)
 case atStart => exact ⟨0,Nat.zero_le _,rfl,fun j hj => absurd hj (by omega)⟩
 case round =>
  obtain ⟨i,hi,rfl,HI⟩ := hrel
  by_cases hlt : i < n
  ·obtain ⟨bb,rfl,hcell⟩ := HG.out i hlt
   have HC := Lib.hid hcell
   have HF2 := Lib.hid (fun c => HF.out i c hlt HI.out)
   have hz : (i : Int) < (n : Int) := by omega
   have hi0 : (0 : Int) ≤ (i : Int) := by omega
   have HN2 : Hid (apT (T.getD i (0,0,0)) a b = none → ∀ j,j < i + 1 → apT (T.getD j (0,0,0)) a b = none) := fun h0 j hj => by
    rcases Nat.lt_or_ge j i with q | q
    ·exact HI.out j q
    ·rw [show j = i by omega]; exact h0
   have HAP : Hid ((∀ j,j < 3 → ¬(tvT (T.getD i (0,0,0)) j = a ∧ tvT (T.getD i (0,0,0)) ((j + 1) % 3) = b)) → apT (T.getD i (0,0,0)) a b = none) := apT_no
   have HAT : Hid (∀ k,k < 3 → (∀ j,j < k → ¬(tvT (T.getD i (0,0,0)) j = a ∧ tvT (T.getD i (0,0,0)) ((j + 1) % 3) = b)) → tvT (T.getD i (0,0,0)) k = a → tvT (T.getD i (0,0,0)) ((k + 1) % 3) = b → apT (T.getD i (0,0,0)) a b = some (tvT (T.getD i (0,0,0)) ((k + 2) % 3))) := fun k => apT_at
   clear hcell
   go_wp2
   go_loop [9] (fun s9 => ∃ k : Nat,k ≤ 3 ∧ s9 = .int .i64 k ∧ Hid (∀ j,j < k → ¬(tvT (T.getD i (0,0,0)) j = a ∧ tvT (T.getD i (0,0,0)) ((j + 1) % 3) = b))) (fun s9 => 3 - (intOf s9).toNat)
   case atStart => exact ⟨0,by omega,rfl,fun j hj => absurd hj (by omega)⟩
   case round =>
    obtain ⟨k,hk,rfl,HK⟩ := hrel
    by_cases hk3 : k < 3
    ·have hkz : (k : Int) < 3 := by omega
     have hk0 : (0 : Int) ≤ (k : Int) := by omega
     have x0 := HC.out k hk3
     have x1 := HC.out ((k + 1) % 3) (by omega)
     have x2 := HC.out ((k + 2) % 3) (by omega)
     have HKN : Hid (¬(tvT (T.getD i (0,0,0)) k = a ∧ tvT (T.getD i (0,0,0)) ((k + 1) % 3) = b) → ∀ j,j < k + 1 → ¬(tvT (T.getD i (0,0,0)) j = a ∧ tvT (T.getD i (0,0,0)) ((j + 1) % 3) = b)) := fun h0 j hj => by
      rcases Nat.lt_or_ge j k with q | q
      ·exact HK.out j q
      ·rw [show j = k by omega]; exact h0
     have HRR := Lib.hid (fun h1 h2 => HF2.out _ (HAT.out k hk3 HK.out h1 h2))
     have hw1 : wrap64 ((k : Int) + 1) = (k : Int) + 1 := by unfold wrap64; omega
     have hw2 : wrap64 ((k : Int) + 2) = (k : Int) + 2 := by unfold wrap64; omega
     have hm1 : ((k : Int) + 1).tmod 3 = (((k + 1) % 3 : Nat) : Int) := by rw [Int.tmod_eq_emod_of_nonneg (by omega)]; omega
     have hm2 : ((k : Int) + 2).tmod 3 = (((k + 2) % 3 : Nat) : Int) := by rw [Int.tmod_eq_emod_of_nonneg (by omega)]; omega
     have hy0 : (0 : Int) ≤ (((k + 1) % 3 : Nat) : Int) := by omega
     have hy1 : (((k + 1) % 3 : Nat) : Int) < 3 := by omega
     have hz0 : (0 : Int) ≤ (((k + 2) % 3 : Nat) : Int) := by omega
     have hz1 : (((k + 2) % 3 : Nat) : Int) < 3 := by omega
     generalize tvT (T.getD i (0,0,0)) k = u at x0 HKN HRR
     generalize tvT (T.getD i (0,0,0)) ((k + 1) % 3) = v at x1 HKN HRR
     generalize tvT (T.getD i (0,0,0)) ((k + 2) % 3) = z at x2 HRR
     generalize (k + 1) % 3 = k1 at *
     generalize (k + 2) % 3 = k2 at *
     by_cases e1 : u = a
     ·by_cases e2 : v = b
      ·have HR := Lib.hid (HRR.out e1 e2)
       go_wp2
       go_ret2
       rw [HR.out]
       exact ⟨rfl,rfl⟩
      ·have HR := Lib.hid (HKN.out (fun e => e2 e.2))
       go_wp2
       go_round
       case rel => exact ⟨k + 1,by omega,by (try rw [hw1]); rfl,HR.out⟩
       case measure => (try rw [hw1]); simp only [intOf]; omega
     ·have HR := Lib.hid (HKN.out (fun e => e1 e.1))
      go_wp2
      go_round
      case rel => exact ⟨k + 1,by omega,by (try rw [hw1]); rfl,HR.out⟩
      case measure => (try rw [hw1]); simp only [intOf]; omega
    ·have e : k = 3 := by omega
     subst e
     have HR := Lib.hid (HN2.out (HAP.out HK.out))
     have hw1 : wrap64 ((i : Int) + 1) = (i : Int) + 1 := by have := HN.out; unfold wrap64; omega
     go_wp2
     go_round
     case rel => exact ⟨i + 1,by omega,by (try rw [hw1]); rfl,HR.out⟩
     case measure => (try rw [hw1]); simp only [intOf]; omega
  ·have e : i = n := by omega
   subst e
   have hz : ¬(i : Int) < (i : Int) := by omega
   have HR := Lib.hid (HNO.out HI.out)
   go_wp2
   go_ret2
   rw [HR.out]
   exact ⟨rfl,rfl⟩
section
variable {w wr w2 w' : World} {B xb : Nat} {P : List Pt} {ad : Option Addr} {cap : Nat} {T T' : List Tri3} {vT v : Value} {S S' : List Seg3} {vS : Value}
theorem heap_set_ne {w : World} {b i j : Nat} {v : Value} (h : i ≠ b) : (w.setCell ⟨b,j,none⟩ v).heap[i]? = w.heap[i]? := Below.heap_setCell w ⟨b,j,none⟩ v i h
theorem size_set {w : World} {p : Addr} {v : Value} : (w.setCell p v).heap.size = w.heap.size := by simp [World.setCell]
theorem RMs.newS (h : RMs w B xb P ad cap T vT S vS) (hb : Below w.heap.size w wr) (ho : wr.ownsRow w.heap.size 90 3 v S'.length (cellsK encS S')) :
  RMs (wr.setCell ⟨xb,2,none⟩ v) B xb P ad cap T vT S' v ∧ Stay (fun i => i = xb) w (wr.setCell ⟨xb,2,none⟩ v) := by
 have h1 := h.below hb
 have hx : xb < w.heap.size := h.box.lt
 have hlt : ∀ g,v.ownBlock = some g → w.heap.size ≤ g ∧ g < wr.heap.size := fun g e => ho.lt g e
 have hT : ∀ g,vT.ownBlock = some g → g < w.heap.size := fun g e => (h.tri.lt g e).2
 refine ⟨⟨h1.box.set2 v,h1.pts.block (Nat.le_of_eq size_set.symm) (fun g e _ => heap_set_ne (h.px g e)),ownsRow_same h1.tri (fun g e => heap_set_ne (fun q => h.tx (by rw [e,q]))),ownsRow_down h.bB (ownsRow_same ho (fun g e => heap_set_ne (fun q => by have := (hlt g e).1; omega))),h.px,h.pt,fun g e q => by have := h.pl g e; have := (hlt _ q).1; omega,h.tx,fun q => by have := (hlt xb q).1; omega,fun b e q => by have := hT b e; have := (hlt b q).1; omega,by rw [size_set]; exact h1.bB,by rw [size_set]; exact h1.pl⟩,
  ⟨hb.os,hb.tape,hb.output,by rw [size_set]; exact hb.size,fun i hi hne => (heap_set_ne hne).trans (hb.block i hi)⟩⟩
theorem RMs.newT (h : RMs w B xb P ad cap T vT S vS) {o : Obj} (hg : (w.alloc o).grownBy w2 vT.ownBlock) {g c n : Nat} (hn : n = T'.length) (ho : w2.ownsRow B 61 3 (.slice (some ⟨g,0,none⟩) n c) n (cellsK encT T')) (hat : vT.ownBlock = some g ∨ g = w.heap.size + 1) :
  RMs (w2.setCell ⟨xb,1,none⟩ (.slice (some ⟨g,0,none⟩) n c)) B xb P ad cap T' (.slice (some ⟨g,0,none⟩) n c) S vS ∧ Stay (fun i => RB xb ad vT vS i) w (w2.setCell ⟨xb,1,none⟩ (.slice (some ⟨g,0,none⟩) n c)) := by
 have hx : xb < w.heap.size := h.box.lt
 have hal : Below w.heap.size w (w.alloc o) := (Below.refl _ _).alloc (Nat.le_refl _) _
 have hsz : (w.alloc o).heap.size = w.heap.size + 1 := by simp
 have h1 := h.below hal
 have keep : ∀ i,i < w.heap.size → vT.ownBlock ≠ some i → w2.heap[i]? = w.heap[i]? := fun i hi hne => (hg.block i (by omega) (fun e => hne e.symm)).trans (hal.block i hi)
 have hs2 : w.heap.size ≤ w2.heap.size := Nat.le_trans hal.size hg.size
 have gx : g ≠ xb := fun e => by
  subst e
  rcases hat with e | e
  ·exact h.tx e
  ·omega
 have gp : ∀ a,ad = some a → g ≠ a.block := fun a e q => by
  rcases hat with e2 | e2
  ·exact h.pt a e (by rw [e2,q])
  ·have := h.pl a e; omega
 have gs : vS.ownBlock ≠ some g := fun e => by
  rcases hat with e2 | e2
  ·exact h.ts g e2 e
  ·have := (h.seg.lt g e).2; omega
 subst hn
 refine ⟨⟨?_,?_,ownsRow_same ho (fun i e => by simp [Value.ownBlock] at e; subst e; exact heap_set_ne gx),ownsRow_same h.seg (fun i e => (heap_set_ne (fun q => h.sx (by rw [e,q]))).trans (keep i (h.seg.lt i e).2 (fun q => h.ts i q e))),h.px,fun a e q => by simp [Value.ownBlock] at q; exact gp a e q,h.ps,fun q => by simp [Value.ownBlock] at q; exact gx q,h.sx,fun b e q => by simp [Value.ownBlock] at e; subst e; exact gs q,by rw [size_set]; exact Nat.le_trans h.bB hs2,fun a e => by rw [size_set]; exact Nat.lt_of_lt_of_le (h.pl a e) hs2⟩,
  ⟨hg.os.trans hal.os,hg.tape.trans hal.tape,hg.output.trans hal.output,by rw [size_set]; exact hs2,fun i hi hne => (heap_set_ne (fun q => hne (.inl q))).trans (keep i hi (fun q => hne (.inr (.inr (.inl q)))))⟩⟩
 ·exact Box3.set1 ((keep xb hx h.tx).trans h.box) _
 ·exact h.pts.block (by rw [size_set]; exact hs2) (fun a e hl => (heap_set_ne (h.px a e)).trans (keep _ hl (h.pt a e)))
end
theorem infoSeg : (Tryz.prog.info? 90).map (fun i => (i.zero,i.size,i.bytes)) = some (some (.agg #[.int .i64 0,.int .i64 0,.int .i64 0]),3,24) := by kernel_rfl
theorem hasP_nat {P : List Pt} {i : Int} (h : hasP P i = true) : ∃ x : Nat,i = x ∧ x < P.length := by
 unfold hasP at h
 rw [Bool.and_eq_true,decide_eq_true_eq,decide_eq_true_eq] at h
 exact ⟨i.toNat,by omega,by omega⟩
theorem mkCode_no {P : List Pt} {T : List Tri3} {a b c : Int} (h : ¬(hasP P a && (hasP P b && hasP P c)) = true) : mkCode P T a b c = 11 := by
 unfold mkCode; rw [if_pos (by simpa using h)]
theorem mkR_no {P : List Pt} {T : List Tri3} {a b c : Int} {k : Int} (h : mkCode P T a b c = k) (hk : k ≠ 0) : mkR P T a b c = T := by unfold mkR; rw [h,if_neg hk]
theorem make15s {w : World} {B xb : Nat} {P : List Pt} {ad : Option Addr} {cap : Nat} {T : List Tri3} {vT : Value} {S : List Seg3} {vS : Value} (h : RMs w B xb P ad cap T vT S vS) (h64 : ∀ p,p ∈ P → pt64 p) (hT : T.length ≤ 1000000) (a b c : Int) :
  Calls Tryz.prog 31 #[.pointer (some ⟨xb,0,none⟩),.int .i64 a,.int .i64 b,.int .i64 c] w fun r w' => r = .returned (.int .i64 (mkCode P T a b c)) ∧ ∃ vT', RMs w' B xb P ad cap (mkR P T a b c) vT' S vS ∧ Stay (RB xb ad vT vS) w w' ∧ (∀ i,vT'.ownBlock = some i → vT.ownBlock = some i ∨ w.heap.size ≤ i) := by
 have HA := Lib.hid (has15 h a)
 have HB := Lib.hid (has15 h b)
 have HC := Lib.hid (has15 h c)
 have HM := Lib.hid h
 by_cases hh : (hasP P a && (hasP P b && hasP P c)) = true
 ·have h1 : hasP P a = true ∧ hasP P b = true ∧ hasP P c = true := by simpa [Bool.and_eq_true] using hh
  obtain ⟨x,rfl,hx⟩ := hasP_nat h1.1
  obtain ⟨y,rfl,hy⟩ := hasP_nat h1.2.1
  obtain ⟨z,rfl,hz⟩ := hasP_nat h1.2.2
  rw [h1.1] at HA
  rw [h1.2.1] at HB
  rw [h1.2.2] at HC
  obtain ⟨b0,off,rfl,hlt,hc⟩ := h.pts (by omega)
  have hm : ∀ i,i < P.length → pt64 (ptP P (i : Nat)) := fun i hi => h64 _ (by unfold ptP; rw [Int.toNat_natCast]; exact getD_memP hi)
  have HL := Lib.hid (fun W => left05 (hm x hx) (hm y hy) (hm z hz) W)
  have HAX : Hid (∀ W i j,Below w.heap.size w W → Calls Tryz.prog 51 #[.pointer (some ⟨xb,0,none⟩),.int .i64 i,.int .i64 j] W fun r w' => r = .returned (.tuple #[.int .i64 ((apR T i j).getD 0),.bool (apR T i j).isSome]) ∧ w' = W) := fun W i j hb => apex15 (h.below hb) hT i j
  have HN : Hid (∀ W,Below w.heap.size w W → W.cell? ⟨xb,0,none⟩ = some (.slice (some ⟨b0,off,none⟩) P.length cap) ∧ W.cell? ⟨b0,off + x * 2,none⟩ = some (.float .f64 (ptP P x).1) ∧ W.cell? ⟨b0,off + x * 2 + 1,none⟩ = some (.float .f64 (ptP P x).2) ∧ W.cell? ⟨b0,off + y * 2,none⟩ = some (.float .f64 (ptP P y).1) ∧ W.cell? ⟨b0,off + y * 2 + 1,none⟩ = some (.float .f64 (ptP P y).2) ∧ W.cell? ⟨b0,off + z * 2,none⟩ = some (.float .f64 (ptP P z).1) ∧ W.cell? ⟨b0,off + z * 2 + 1,none⟩ = some (.float .f64 (ptP P z).2)) := fun W hb =>
   ⟨cell_keep h.cells.1 hb,cell_keep (hc x hx).1 hb,cell_keep (hc x hx).2 hb,cell_keep (hc y hy).1 hb,cell_keep (hc y hy).2 hb,cell_keep (hc z hz).1 hb,cell_keep (hc z hz).2 hb⟩
  have hx0 : (0 : Int) ≤ (x : Int) := by omega
  have hy0 : (0 : Int) ≤ (y : Int) := by omega
  have hz0 : (0 : Int) ≤ (z : Int) := by omega
  have hx1 : (x : Int) < (P.length : Int) := by omega
  have hy1 : (y : Int) < (P.length : Int) := by omega
  have hz1 : (z : Int) < (P.length : Int) := by omega
  have hcode : mkCode P T x y z = if signI (ptP P x) (ptP P y) (ptP P z) ≤ 0 then 14 else if ((apR T x y).isSome || ((apR T y z).isSome || (apR T z x).isSome)) = true then 14 else 0 := by
   unfold mkCode; rw [if_neg (by simpa using hh)]
  have HT := Lib.hid hT
  have n0 := HN.out w.drew (Below.refl _ _).drew
  clear h h64 hT hh h1 hlt hc hm
  unfold V at HL
  generalize signI (ptP P x) (ptP P y) (ptP P z) = s at *
  generalize (ptP P x).1 = px at *
  generalize (ptP P x).2 = px' at *
  generalize (ptP P y).1 = py at *
  generalize (ptP P y).2 = py' at *
  generalize (ptP P z).1 = pz at *
  generalize (ptP P z).2 = pz' at *
  go_enter Tryz.func31,Tryz.ntmps31
  go_wp2_with (first
   |(go_at_call 63; (with_reducible refine HA.out.mono ?_); rintro r w1 ⟨rfl,hw1⟩; obtain rfl := hw1.symm)
   |(go_at_call 63; (with_reducible refine HB.out.mono ?_); rintro r w1 ⟨rfl,hw1⟩; obtain rfl := hw1.symm)
   |(go_at_call 63; (with_reducible refine HC.out.mono ?_); rintro r w1 ⟨rfl,hw1⟩; obtain rfl := hw1.symm))
  go_region_held3 (fun W => W.cell? ⟨xb,0,none⟩ = some (.slice (some ⟨b0,off,none⟩) P.length cap) ∧ W.cell? ⟨b0,off + x * 2,none⟩ = some (.float .f64 px) ∧ W.cell? ⟨b0,off + x * 2 + 1,none⟩ = some (.float .f64 px') ∧ W.cell? ⟨b0,off + y * 2,none⟩ = some (.float .f64 py) ∧ W.cell? ⟨b0,off + y * 2 + 1,none⟩ = some (.float .f64 py') ∧ W.cell? ⟨b0,off + z * 2,none⟩ = some (.float .f64 pz) ∧ W.cell? ⟨b0,off + z * 2 + 1,none⟩ = some (.float .f64 pz'))
   (first | with_reducible exact n0 | with_reducible exact n1)
   (first | (go_at_call 54; (with_reducible refine (HL.out _).mono ?_); rintro r w1 ⟨rfl,hb1'⟩; have hb1 : Below w.heap.size w w1 := (Below.refl w.heap.size w).drew.trans hb1'; have n1 := HN.out w1 hb1))
  clear n0 n1 hb1' HN HL
  have HB1 := Lib.hid hb1
  have HM1 := Lib.hid (HM.out.below hb1)
  clear hb1
  by_cases hs : s ≤ 0
  ·rw [if_pos hs] at hcode
   have HCD := Lib.hid hcode
   clear hcode
   go_wp2
   go_ret
   rw [HCD.out,mkR_no HCD.out (by decide)]
   exact ⟨rfl,vT,HM1.out,Stay.of_below HB1.out,fun i e => .inl e⟩
  ·rw [if_neg hs] at hcode
   have HX1 := Lib.hid (HAX.out w1 x y HB1.out)
   have HX2 := Lib.hid (HAX.out w1 y z HB1.out)
   have HX3 := Lib.hid (HAX.out w1 z x HB1.out)
   have HCD := Lib.hid hcode
   clear hcode HAX
   generalize (apR T x y).isSome = p at *
   generalize (apR T y z).isSome = q at *
   generalize (apR T z x).isSome = r at *
   generalize (apR T x y).getD 0 = p' at *
   generalize (apR T y z).getD 0 = q' at *
   generalize (apR T z x).getD 0 = r' at *
   have h4 : p = true ∨ (p = false ∧ q = true) ∨ (p = false ∧ q = false ∧ r = true) ∨ (p = false ∧ q = false ∧ r = false) := by cases p <;> cases q <;> cases r <;> simp
   rcases h4 with rfl | ⟨rfl,rfl⟩ | ⟨rfl,rfl,rfl⟩ | ⟨rfl,rfl,rfl⟩
   iterate 3
    ·have HC2 : Hid (mkCode P T x y z = 14) := by unfold Hid; rw [HCD.out]; simp
     go_wp2_with (first
      |(go_at_call 51; (with_reducible refine HX1.out.mono ?_); rintro r w2 ⟨rfl,hw2⟩; obtain rfl := hw2.symm)
      |(go_at_call 51; (with_reducible refine HX2.out.mono ?_); rintro r w2 ⟨rfl,hw2⟩; obtain rfl := hw2.symm)
      |(go_at_call 51; (with_reducible refine HX3.out.mono ?_); rintro r w2 ⟨rfl,hw2⟩; obtain rfl := hw2.symm))
     go_ret
     rw [HC2.out,mkR_no HC2.out (by decide)]
     exact ⟨rfl,vT,HM1.out,Stay.of_below HB1.out,fun i e => .inl e⟩
   ·have HC2 : Hid (mkCode P T x y z = 0) := by unfold Hid; rw [HCD.out]; rfl
    obtain ⟨i0,hi,hz0', hz1', hz2'⟩ := info_parts infoTri
    obtain ⟨gT,cT,hv⟩ : ∃ gT cT,vT = .slice gT T.length cT := by
     rcases HM1.out.tri.2 with ⟨h0,h1⟩ | ⟨g,c,cur,h0,_⟩
     ·exact ⟨none,0,by rw [h1]; exact h0⟩
     ·exact ⟨_,_,h0⟩
    subst hv
    have HBX := Lib.hid (HM1.out.box.al (.cells #[.int .i64 x,.int .i64 y,.int .i64 z] 61))
    obtain ⟨c0,c1,c2⟩ := HBX.out.c
    obtain ⟨d0,d1,d2⟩ := HM1.out.box.c
    go_wp2_with (first
     |(go_at_call 51; (with_reducible refine HX1.out.mono ?_); rintro r w2 ⟨rfl,hw2⟩; obtain rfl := hw2.symm)
     |(go_at_call 51; (with_reducible refine HX2.out.mono ?_); rintro r w2 ⟨rfl,hw2⟩; obtain rfl := hw2.symm)
     |(go_at_call 51; (with_reducible refine HX3.out.mono ?_); rintro r w2 ⟨rfl,hw2⟩; obtain rfl := hw2.symm)
     |(at_builtin; refine wpList_append_lies _ rfl _ _ 23 rfl B 61 i0 (.agg #[.int .i64 0,.int .i64 0,.int .i64 0]) 3 24 Tryz.underlying23 hi hz0' hz1' hz2' rfl (by decide) _ T.length (cellsK encT T) rfl (HM1.out.tri.alloc _) ⟨w1.heap.size,0,none⟩ 1 1 (encT (x,y,z)) rfl ?qc1 ?qc2 ?qc3 (by decide) ?qc4 ?qc5 ?qc6 (w1.heap.size + 1) (by simp) ?_))
    case qc1 => rfl
    case qc2 => exact cells_new w1 (encT (x,y,z)) 61
    case qc3 => exact encT_one _
    case qc4 => have := HT.out; unfold maxLen; omega
    case qc5 => have := HT.out; omega
    case qc6 => have := HM1.out.bB; simp; omega
    intro g cg w2 hown hgrow hat hlt
    clear c0 c1 c2 d0 d1 d2
    have HB2 := Lib.hid (HBX.out.grown hgrow HM1.out.tx)
    obtain ⟨c0,c1,c2⟩ := HB2.out.c
    have f1 := HB2.out.fz 1
    have HS := Lib.hid (HM1.out.newT (T' := T ++ [((x : Int),(y : Int),(z : Int))]) (n := T.length + 1) hgrow (by simp) (by rw [cellsK_append,cellsK_one]; exact hown) hat)
    have HAT := Lib.hid hat
    clear hown hgrow hat hlt
    go_wp2
    go_ret
    obtain ⟨h1,h2⟩ := HS.out
    rw [HC2.out,show mkR P T x y z = T ++ [((x : Int),(y : Int),(z : Int))] by unfold mkR; rw [HC2.out]; rfl]
    refine ⟨rfl,_,h1,(Stay.of_below HB1.out).trans (h2.mono (fun i e => .inl e)),fun i e => ?_⟩
    simp [Value.ownBlock] at e
    subst e
    rcases HAT.out with e | e
    ·exact .inl e
    ·right; have := HB1.out.size; omega
 ·have hcode := mkCode_no (T := T) hh
  rw [hcode,mkR_no hcode (by decide)]
  clear hcode
  generalize hasP P a = oa at *
  generalize hasP P b = ob at *
  generalize hasP P c = oc at *
  have h3 : oa = false ∨ (oa = true ∧ ob = false) ∨ (oa = true ∧ ob = true ∧ oc = false) := by cases oa <;> cases ob <;> cases oc <;> simp at hh ⊢
  clear hh h h64 hT
  rcases h3 with rfl | ⟨rfl,rfl⟩ | ⟨rfl,rfl,rfl⟩
  all_goals
   go_enter Tryz.func31,Tryz.ntmps31
   go_wp2_with (first
    |(go_at_call 63; (with_reducible refine HA.out.mono ?_); rintro r w1 ⟨rfl,rfl⟩)
    |(go_at_call 63; (with_reducible refine HB.out.mono ?_); rintro r w1 ⟨rfl,rfl⟩)
    |(go_at_call 63; (with_reducible refine HC.out.mono ?_); rintro r w1 ⟨rfl,rfl⟩))
   go_ret
   exact ⟨rfl,vT,HM.out,Stay.refl _ _,fun i e => .inl e⟩
end Go.Proofs.YtbagikgpgdlkcaaGreatDoor
