/- Part of the proof. No conditions. -/
import Derived.Test.YtbagikgpgdlkcaaGreatDoorZM
import Derived.Shelf.SlicesG.Cmp
import Derived.Deep.CutRange
import Derived.Shelf.SlSortCmp.NoneTotal
set_option linter.all false
set_option maxHeartbeats 8000000
set_option maxRecDepth 100000
namespace Go.Proofs.YtbagikgpgdlkcaaGreatDoor
open Go.RowKit
def cmpT (x y : Tri3) : Int := if x.1 ≠ y.1 then Lib.compareInt x.1 y.1 else if x.2.1 ≠ y.2.1 then Lib.compareInt x.2.1 y.2.1 else Lib.compareInt x.2.2 y.2.2
theorem compareInt_ne {x y : Int} : Lib.compareInt x y ≠ 0 ↔ x ≠ y := by
 unfold Lib.compareInt
 by_cases h1 : x < y
 ·simp [h1]; omega
 ·by_cases h2 : x > y
  ·simp [h1,h2]; omega
  ·simp [h1,h2]; omega
theorem compareInt_self (x : Int) : Lib.compareInt x x = 0 := by unfold Lib.compareInt; simp
def compT (x : Tri3) (k : Nat) : Int := if k = 0 then x.1 else if k = 1 then x.2.1 else x.2.2
theorem cmpInt_walk (x y : Int) (w : World) : Calls Tryz.prog 109 #[.int .i64 x,.int .i64 y] w fun e w' => e = .returned (.int .i64 (Lib.compareInt x y)) ∧ w' = w :=
 AnyG.cmp_Compare_int (P := Tryz.prog) Tryz.cmpInt x y w
theorem cmpT_at {x y : Tri3} {k : Nat} (hk : k < 3) (he : ∀ j,j < k → compT x j = compT y j) (hn : compT x k ≠ compT y k) : cmpT x y = Lib.compareInt (compT x k) (compT y k) := by
 unfold cmpT
 have h0 := he 0
 have h1 := he 1
 have : k = 0 ∨ k = 1 ∨ k = 2 := by omega
 rcases this with rfl | rfl | rfl
 ·simp [compT] at hn ⊢; simp [hn]
 ·have := h0 (by omega); simp [compT] at this hn ⊢; simp [this,hn]
 ·have a := h0 (by omega); have b := h1 (by omega); simp [compT] at a b hn ⊢; simp [a,b]
theorem cmpT_eq {x y : Tri3} (he : ∀ j,j < 3 → compT x j = compT y j) : cmpT x y = 0 := by
 have h0 := he 0 (by omega)
 have h1 := he 1 (by omega)
 have h2 := he 2 (by omega)
 simp [compT] at h0 h1 h2
 unfold cmpT
 rw [if_neg (by simpa using h0),if_neg (by simpa using h1),h2,compareInt_self]
theorem compare_walk (p q : Nat) (x y : Tri3) (w : World) (x0 : w.cell? ⟨p,0,none⟩ = some (.int .i64 x.1)) (x1 : w.cell? ⟨p,1,none⟩ = some (.int .i64 x.2.1)) (x2 : w.cell? ⟨p,2,none⟩ = some (.int .i64 x.2.2))
  (y0 : w.cell? ⟨q,0,none⟩ = some (.int .i64 y.1)) (y1 : w.cell? ⟨q,1,none⟩ = some (.int .i64 y.2.1)) (y2 : w.cell? ⟨q,2,none⟩ = some (.int .i64 y.2.2)) :
  Calls Tryz.prog 86 #[.slice (some ⟨p,0,none⟩) 3 3,.slice (some ⟨q,0,none⟩) 3 3] w fun e w' => e = .returned (.int .i64 (cmpT x y)) ∧ w' = w := by
 have hX : ∀ k,k < 3 → w.cell? ⟨p,k,none⟩ = some (.int .i64 (compT x k)) := fun k hk => by
  have : k = 0 ∨ k = 1 ∨ k = 2 := by omega
  rcases this with rfl | rfl | rfl <;> assumption
 have hY : ∀ k,k < 3 → w.cell? ⟨q,k,none⟩ = some (.int .i64 (compT y k)) := fun k hk => by
  have : k = 0 ∨ k = 1 ∨ k = 2 := by omega
  rcases this with rfl | rfl | rfl <;> assumption
 have HX := Lib.hid hX
 have HY := Lib.hid hY
 clear hX hY x0 x1 x2 y0 y1 y2
 go_enter Tryz.func86,Tryz.ntmps86
 go_wp2
 go_loopw [11] (fun i wr => ∃ k : Nat,k ≤ 3 ∧ i = .int .i64 k ∧ wr = w ∧ Hid (∀ j,j < k → compT x j = compT y j)) (fun i _ => 3 - (intOf i).toNat)
 case atStart => exact ⟨0,by omega,rfl,rfl,fun j hj => by omega⟩
 case round =>
  obtain ⟨k,hk,rfl,rfl,HE⟩ := hrel
  by_cases hlt : k < 3
  ·have hx := HX.out k hlt
   have hy := HY.out k hlt
   have HC := Lib.hid (cmpInt_walk (compT x k) (compT y k))
   by_cases he : compT x k = compT y k
   ·have hz : Lib.compareInt (compT x k) (compT y k) = 0 := by rw [he,compareInt_self]
    rw [hz] at HC
    have HN : Hid (∀ j,j < k + 1 → compT x j = compT y j) := fun j hj => by
     by_cases q : j = k
     ·rw [q]; exact he
     ·exact HE.out j (by omega)
    clear he hz
    go_wp2_with (go_at_call 109; refine (HC.out _).mono ?_; rintro r w1 ⟨rfl,rfl⟩)
    go_roundw
    case rel => exact ⟨k + 1,by omega,by rfl,(by first | trivial | rfl),HN⟩
    case measure => simp [intOf]; omega
   ·have HA := Lib.hid (cmpT_at hlt HE.out he)
    have hne := compareInt_ne.2 he
    clear he
    rw [← HA.out] at HC hne
    go_wp2_with (go_at_call 109; refine (HC.out _).mono ?_; rintro r w1 ⟨rfl,rfl⟩)
    go_ret
    exact ⟨rfl,rfl⟩
  ·have e : k = 3 := by omega
   subst e
   have HQ := Lib.hid (cmpT_eq HE.out)
   clear hlt hk HE
   go_wp2
   go_ret
   refine ⟨?_,rfl⟩
   rw [HQ.out]; rfl
def vT (x : Tri3) : Value := .agg #[.int .i64 x.1,.int .i64 x.2.1,.int .i64 x.2.2]
theorem triKey_walk (x : Tri3) (w : World) :
  Calls Tryz.prog 45 #[vT x] w fun e w' => e = .returned (vT x) ∧ w' = ((w.alloc (.cells #[.int .i64 x.1,.int .i64 x.2.1,.int .i64 x.2.2] 61)).alloc (.cells #[.int .i64 x.1,.int .i64 x.2.1,.int .i64 x.2.2] 60)) := by
 obtain ⟨a,b,c⟩ := x
 unfold vT
 go_enter Tryz.func45,Tryz.ntmps45
 go_wp2
 go_returns
 exact ⟨rfl,rfl⟩
def CmpS (w : World) (kb : Nat) (k : Value) (b c : Nat) (x y : Tri3) : Prop := w.cell? ⟨kb,0,none⟩ = some k ∧ w.cell? ⟨b,0,none⟩ = some (.int .i64 x.1) ∧ w.cell? ⟨b,1,none⟩ = some (.int .i64 x.2.1) ∧ w.cell? ⟨b,2,none⟩ = some (.int .i64 x.2.2)
 ∧ w.cell? ⟨c,0,none⟩ = some (.int .i64 y.1) ∧ w.cell? ⟨c,1,none⟩ = some (.int .i64 y.2.1) ∧ w.cell? ⟨c,2,none⟩ = some (.int .i64 y.2.2)
theorem CmpS.drew {w : World} {kb : Nat} {k : Value} {b c : Nat} {x y : Tri3} (h : CmpS w kb k b c x y) : CmpS w.drew kb k b c x y := h
theorem CmpS.alloc {w : World} {kb : Nat} {k : Value} {b c : Nat} {x y : Tri3} (h : CmpS w kb k b c x y) {o : Obj} : CmpS (w.alloc o) kb k b c x y :=
 ⟨Lib.cell?_alloc_some _ h.1,Lib.cell?_alloc_some _ h.2.1,Lib.cell?_alloc_some _ h.2.2.1,Lib.cell?_alloc_some _ h.2.2.2.1,Lib.cell?_alloc_some _ h.2.2.2.2.1,Lib.cell?_alloc_some _ h.2.2.2.2.2.1,Lib.cell?_alloc_some _ h.2.2.2.2.2.2⟩
theorem cellDrew {w : World} {a : Addr} {x : Option Value} (h : w.cell? a = x) : w.drew.cell? a = x := h
def CmpC (w : World) (p q : Nat) (x y : Tri3) : Prop := w.cell? ⟨p,0,none⟩ = some (.int .i64 x.1) ∧ w.cell? ⟨p,1,none⟩ = some (.int .i64 x.2.1) ∧ w.cell? ⟨p,2,none⟩ = some (.int .i64 x.2.2)
 ∧ w.cell? ⟨q,0,none⟩ = some (.int .i64 y.1) ∧ w.cell? ⟨q,1,none⟩ = some (.int .i64 y.2.1) ∧ w.cell? ⟨q,2,none⟩ = some (.int .i64 y.2.2)
def Grew (w w' : World) : Prop := ∃ q os,w' = Sort.grow (w.drewN q) os
theorem Grew.refl (w : World) : Grew w w := ⟨0,#[],by rw [Sort.grow_empty]; rfl⟩
theorem Grew.alloc {a w : World} {o : Obj} (h : Grew a w) : Grew a (w.alloc o) := by
 obtain ⟨q,os,rfl⟩ := h
 exact ⟨q,os ++ #[o],by rw [Sort.alloc_eq_grow,Sort.grow_grow]⟩
theorem Grew.drewN {a w : World} {n : Nat} (h : Grew a w) : Grew a (w.drewN n) := by
 obtain ⟨q,os,rfl⟩ := h
 exact ⟨q + n,os,by rw [← World.drewN_drewN]; rfl⟩
theorem Grew.drew {a w : World} (h : Grew a w) : Grew a w.drew := h.drewN (n := 1)
theorem triCmp_walk (kb : Nat) (x y : Tri3) (w : World) (hk : w.cell? ⟨kb,0,none⟩ = some (.func (.func 45) #[] #[])) :
  Calls Tryz.prog 85 #[vT x,vT y,.pointer (some ⟨kb,0,none⟩)] w fun e w' => e = .returned (.int .i64 (cmpT x y)) ∧ Grew w w' := by
 have HX := Lib.hid (triKey_walk x)
 have HY := Lib.hid (triKey_walk y)
 have HC := Lib.hid (fun p q => compare_walk p q x y)
 have hkl := World.block_lt_of_cell? _ _ hk
 obtain ⟨x0,x1,x2⟩ := x
 obtain ⟨y0,y1,y2⟩ := y
 unfold vT at *
 dsimp only at HX HY HC
 generalize cmpT (x0,x1,x2) (y0,y1,y2) = z at *
 have hB : CmpS ((w.alloc (.cells #[.int .i64 x0,.int .i64 x1,.int .i64 x2] 61)).alloc (.cells #[.int .i64 y0,.int .i64 y1,.int .i64 y2] 61)) kb (.func (.func 45) #[] #[]) w.heap.size (w.heap.size + 1) (x0,x1,x2) (y0,y1,y2) := by
  refine ⟨Lib.cell?_alloc_some _ (Lib.cell?_alloc_some _ hk),?_,?_,?_,?_,?_,?_⟩ <;> simp
 go_enter Tryz.func85,Tryz.ntmps85
 have HB := Lib.hid hB
 clear hB hk
 go_upto_region 1 with fail
 go_cut [6,7] from 8 to 13 (fun s6 s7 wx => ∃ p q : Nat,s6 = .pointer (some ⟨p,0,none⟩) ∧ s7 = .pointer (some ⟨q,0,none⟩) ∧ Hid (CmpC wx p q (x0,x1,x2) (y0,y1,y2)) ∧ Hid (Grew w wx))
 case first =>
  go_region_held3 (fun w' => w'.cell? ⟨kb,0,none⟩ = some (.func (.func 45) #[] #[]) ∧ w'.cell? ⟨w.heap.size,0,none⟩ = some (.int .i64 x0) ∧ w'.cell? ⟨w.heap.size,1,none⟩ = some (.int .i64 x1) ∧ w'.cell? ⟨w.heap.size,2,none⟩ = some (.int .i64 x2)
    ∧ w'.cell? ⟨w.heap.size + 1,0,none⟩ = some (.int .i64 y0) ∧ w'.cell? ⟨w.heap.size + 1,1,none⟩ = some (.int .i64 y1) ∧ w'.cell? ⟨w.heap.size + 1,2,none⟩ = some (.int .i64 y2))
   (first | (change CmpS _ kb (.func (.func 45) #[] #[]) w.heap.size (w.heap.size + 1) (x0,x1,x2) (y0,y1,y2); repeat (first | with_reducible exact HB.out | with_reducible apply CmpS.drew | with_reducible apply CmpS.alloc)))
   (first
    |(go_at_call 45; (first | (with_reducible refine (HX.out _).mono ?_) | (with_reducible refine (HY.out _).mono ?_)); rintro r w1 ⟨rfl,rfl⟩))
  all_goals
   go_wp2_with fail
   go_meet
   refine ⟨_,_,rfl,rfl,?_,?_⟩
   ·refine ⟨?_,?_,?_,?_,?_,?_⟩ <;> (repeat (first | (refine (World.cell?_alloc_at _ _ _ _ ?_).trans ?_; (focus (simp; done)); rfl) | with_reducible apply Lib.cell?_alloc_some | with_reducible apply cellDrew))
   ·unfold Hid
    repeat (first | with_reducible exact Grew.refl _ | with_reducible apply Grew.drewN | with_reducible apply Grew.drew | with_reducible apply Grew.alloc)
 case rest =>
  obtain ⟨p,q,rfl,rfl,HCC,HG⟩ := hcut
  clear HX HY HB
  obtain ⟨p0,p1,p2,q0,q1,q2⟩ := HCC.out
  have HCC2 := Lib.hid (HC.out p q wc.drew p0 p1 p2 q0 q1 q2)
  clear p0 p1 p2 q0 q1 q2
  go_wp2
  go_region_held3 (fun w' => w' = wc.drew) (first | rfl | assumption) (first | (go_at_call 86; refine HCC2.out.mono ?_; rintro r w1 ⟨rfl,rfl⟩))
  go_wp2
  go_ret
  exact ⟨rfl,HG.out.drew⟩
end Go.Proofs.YtbagikgpgdlkcaaGreatDoor
namespace Go.Proofs
open Go.Shelf
def Tryz.sortTri_ren : Go.Shelf.Ren := ⟨fun | 6 => 84 | 15 => 108 | 14 => 107 | 28 => 150 | 29 => 151 | 20 => 142 | 21 => 143 | 22 => 144 | 23 => 145 | 24 => 146 | 25 => 147 | 26 => 148 | 27 => 149 | 46 => 189 | 47 => 190 | 48 => 191 | 49 => 192 | 50 => 193 | 57 => 223 | n => n,fun | 22 => 23 | 24 => 61 | 25 => 119 | 3 => 3 | 39 => 140 | 0 => 0 | 53 => 181 | 55 => 171 | 4 => 4 | 46 => 175 | 45 => 174 | 50 => 32 | 5 => 5 | 9 => 9 | 66 => 205 | 70 => 209 | 76 => 226 | 77 => 227 | n => n,fun | n => n⟩
theorem Tryz.sortTri : Go.Proofs.SlLaysF0.n6 Tryz.prog Tryz.sortTri_ren := {
 mixed := by kernel_rfl
 f6 := ⟨Tryz.f84.name,by decide,Tryz.func84.trans (congrArg some (by kernel_rfl))⟩
 f14 := ⟨Tryz.f107.name,by decide,Tryz.func107.trans (congrArg some (by kernel_rfl))⟩
 f15 := Tryz.func108.trans (congrArg some (by kernel_rfl))
 f20 := ⟨Tryz.f142.name,by decide,Tryz.func142.trans (congrArg some (by kernel_rfl))⟩
 f21 := ⟨Tryz.f143.name,by decide,Tryz.func143.trans (congrArg some (by kernel_rfl))⟩
 f22 := ⟨Tryz.f144.name,by decide,Tryz.func144.trans (congrArg some (by kernel_rfl))⟩
 f23 := ⟨Tryz.f145.name,by decide,Tryz.func145.trans (congrArg some (by kernel_rfl))⟩
 f24 := ⟨Tryz.f146.name,by decide,Tryz.func146.trans (congrArg some (by kernel_rfl))⟩
 f25 := ⟨Tryz.f147.name,by decide,Tryz.func147.trans (congrArg some (by kernel_rfl))⟩
 f26 := ⟨Tryz.f148.name,by decide,Tryz.func148.trans (congrArg some (by kernel_rfl))⟩
 f27 := ⟨Tryz.f149.name,by decide,Tryz.func149.trans (congrArg some (by kernel_rfl))⟩
 f28 := Tryz.func150.trans (congrArg some (by kernel_rfl))
 f29 := Tryz.func151.trans (congrArg some (by kernel_rfl))
 f46 := ⟨Tryz.f189.name,by decide,Tryz.func189.trans (congrArg some (by kernel_rfl))⟩
 f47 := Tryz.func190.trans (congrArg some (by kernel_rfl))
 f48 := Tryz.func191.trans (congrArg some (by kernel_rfl))
 f49 := ⟨Tryz.f192.name,by decide,Tryz.func192.trans (congrArg some (by kernel_rfl))⟩
 f50 := ⟨Tryz.f193.name,by decide,Tryz.func193.trans (congrArg some (by kernel_rfl))⟩
 f57 := ⟨Tryz.f223.name,by decide,Tryz.func223.trans (congrArg some (by kernel_rfl))⟩
 t0 := Tryz.underlying0
 a0 := Tryz.isAgg0
 z0 := Tryz.sizeOf0
 v0 := Tryz.zeroValue0
 t3 := Tryz.underlying3
 a3 := Tryz.isAgg3
 z3 := Tryz.sizeOf3
 v3 := Tryz.zeroValue3
 t4 := Tryz.underlying4
 a4 := Tryz.isAgg4
 z4 := Tryz.sizeOf4
 v4 := Tryz.zeroValue4
 t5 := Tryz.underlying5
 a5 := Tryz.isAgg5
 z5 := Tryz.sizeOf5
 v5 := Tryz.zeroValue5
 t9 := Tryz.underlying9
 a9 := Tryz.isAgg9
 z9 := Tryz.sizeOf9
 v9 := Tryz.zeroValue9
 t22 := Tryz.underlying23
 a22 := Tryz.isAgg23
 z22 := Tryz.sizeOf23
 v22 := Tryz.zeroValue23
 t25 := Tryz.underlying119
 a25 := Tryz.isAgg119
 z25 := Tryz.sizeOf119
 v25 := Tryz.zeroValue119
 t39 := Tryz.underlying140
 a39 := Tryz.isAgg140
 z39 := Tryz.sizeOf140
 v39 := Tryz.zeroValue140
 t45 := Tryz.underlying174
 a45 := Tryz.isAgg174
 z45 := Tryz.sizeOf174
 v45 := Tryz.zeroValue174
 t46 := Tryz.underlying175
 a46 := Tryz.isAgg175
 z46 := Tryz.sizeOf175
 v46 := Tryz.zeroValue175
 t50 := Tryz.underlying32
 a50 := Tryz.isAgg32
 z50 := Tryz.sizeOf32
 v50 := Tryz.zeroValue32
 t53 := Tryz.underlying181
 a53 := Tryz.isAgg181
 z53 := Tryz.sizeOf181
 v53 := Tryz.zeroValue181
 t55 := Tryz.underlying171
 a55 := Tryz.isAgg171
 z55 := Tryz.sizeOf171
 v55 := Tryz.zeroValue171
 t66 := Tryz.underlying205
 a66 := Tryz.isAgg205
 z66 := Tryz.sizeOf205
 v66 := Tryz.zeroValue205
 t70 := Tryz.underlying209
 a70 := Tryz.isAgg209
 z70 := Tryz.sizeOf209
 v70 := Tryz.zeroValue209
 t76 := Tryz.underlying226
 a76 := Tryz.isAgg226
 z76 := Tryz.sizeOf226
 v76 := Tryz.zeroValue226
 t77 := Tryz.underlying227
 a77 := Tryz.isAgg227
 z77 := Tryz.sizeOf227
 v77 := Tryz.zeroValue227 }
def Tryz.sortPair_ren : Go.Shelf.Ren := ⟨fun | 6 => 127 | 15 => 108 | 14 => 172 | 28 => 150 | 29 => 151 | 20 => 205 | 21 => 206 | 22 => 207 | 23 => 208 | 24 => 209 | 25 => 210 | 26 => 211 | 27 => 212 | 46 => 233 | 47 => 190 | 48 => 191 | 49 => 234 | 50 => 235 | 57 => 246 | n => n,fun | 22 => 38 | 24 => 42 | 25 => 159 | 3 => 3 | 39 => 140 | 0 => 0 | 53 => 181 | 55 => 171 | 4 => 4 | 46 => 175 | 45 => 174 | 50 => 32 | 5 => 5 | 9 => 9 | 66 => 205 | 70 => 209 | 76 => 226 | 77 => 227 | n => n,fun | n => n⟩
theorem Tryz.sortPair : Go.Proofs.SlLaysF0.n6 Tryz.prog Tryz.sortPair_ren := {
 mixed := by kernel_rfl
 f6 := ⟨Tryz.f127.name,by decide,Tryz.func127.trans (congrArg some (by kernel_rfl))⟩
 f14 := ⟨Tryz.f172.name,by decide,Tryz.func172.trans (congrArg some (by kernel_rfl))⟩
 f15 := Tryz.func108.trans (congrArg some (by kernel_rfl))
 f20 := ⟨Tryz.f205.name,by decide,Tryz.func205.trans (congrArg some (by kernel_rfl))⟩
 f21 := ⟨Tryz.f206.name,by decide,Tryz.func206.trans (congrArg some (by kernel_rfl))⟩
 f22 := ⟨Tryz.f207.name,by decide,Tryz.func207.trans (congrArg some (by kernel_rfl))⟩
 f23 := ⟨Tryz.f208.name,by decide,Tryz.func208.trans (congrArg some (by kernel_rfl))⟩
 f24 := ⟨Tryz.f209.name,by decide,Tryz.func209.trans (congrArg some (by kernel_rfl))⟩
 f25 := ⟨Tryz.f210.name,by decide,Tryz.func210.trans (congrArg some (by kernel_rfl))⟩
 f26 := ⟨Tryz.f211.name,by decide,Tryz.func211.trans (congrArg some (by kernel_rfl))⟩
 f27 := ⟨Tryz.f212.name,by decide,Tryz.func212.trans (congrArg some (by kernel_rfl))⟩
 f28 := Tryz.func150.trans (congrArg some (by kernel_rfl))
 f29 := Tryz.func151.trans (congrArg some (by kernel_rfl))
 f46 := ⟨Tryz.f233.name,by decide,Tryz.func233.trans (congrArg some (by kernel_rfl))⟩
 f47 := Tryz.func190.trans (congrArg some (by kernel_rfl))
 f48 := Tryz.func191.trans (congrArg some (by kernel_rfl))
 f49 := ⟨Tryz.f234.name,by decide,Tryz.func234.trans (congrArg some (by kernel_rfl))⟩
 f50 := ⟨Tryz.f235.name,by decide,Tryz.func235.trans (congrArg some (by kernel_rfl))⟩
 f57 := ⟨Tryz.f246.name,by decide,Tryz.func246.trans (congrArg some (by kernel_rfl))⟩
 t0 := Tryz.underlying0
 a0 := Tryz.isAgg0
 z0 := Tryz.sizeOf0
 v0 := Tryz.zeroValue0
 t3 := Tryz.underlying3
 a3 := Tryz.isAgg3
 z3 := Tryz.sizeOf3
 v3 := Tryz.zeroValue3
 t4 := Tryz.underlying4
 a4 := Tryz.isAgg4
 z4 := Tryz.sizeOf4
 v4 := Tryz.zeroValue4
 t5 := Tryz.underlying5
 a5 := Tryz.isAgg5
 z5 := Tryz.sizeOf5
 v5 := Tryz.zeroValue5
 t9 := Tryz.underlying9
 a9 := Tryz.isAgg9
 z9 := Tryz.sizeOf9
 v9 := Tryz.zeroValue9
 t22 := Tryz.underlying38
 a22 := Tryz.isAgg38
 z22 := Tryz.sizeOf38
 v22 := Tryz.zeroValue38
 t25 := Tryz.underlying159
 a25 := Tryz.isAgg159
 z25 := Tryz.sizeOf159
 v25 := Tryz.zeroValue159
 t39 := Tryz.underlying140
 a39 := Tryz.isAgg140
 z39 := Tryz.sizeOf140
 v39 := Tryz.zeroValue140
 t45 := Tryz.underlying174
 a45 := Tryz.isAgg174
 z45 := Tryz.sizeOf174
 v45 := Tryz.zeroValue174
 t46 := Tryz.underlying175
 a46 := Tryz.isAgg175
 z46 := Tryz.sizeOf175
 v46 := Tryz.zeroValue175
 t50 := Tryz.underlying32
 a50 := Tryz.isAgg32
 z50 := Tryz.sizeOf32
 v50 := Tryz.zeroValue32
 t53 := Tryz.underlying181
 a53 := Tryz.isAgg181
 z53 := Tryz.sizeOf181
 v53 := Tryz.zeroValue181
 t55 := Tryz.underlying171
 a55 := Tryz.isAgg171
 z55 := Tryz.sizeOf171
 v55 := Tryz.zeroValue171
 t66 := Tryz.underlying205
 a66 := Tryz.isAgg205
 z66 := Tryz.sizeOf205
 v66 := Tryz.zeroValue205
 t70 := Tryz.underlying209
 a70 := Tryz.isAgg209
 z70 := Tryz.sizeOf209
 v70 := Tryz.zeroValue209
 t76 := Tryz.underlying226
 a76 := Tryz.isAgg226
 z76 := Tryz.sizeOf226
 v76 := Tryz.zeroValue226
 t77 := Tryz.underlying227
 a77 := Tryz.isAgg227
 z77 := Tryz.sizeOf227
 v77 := Tryz.zeroValue227 }
def Tryz.sortSeg_ren : Go.Shelf.Ren := ⟨fun | 6 => 91 | 15 => 108 | 14 => 126 | 28 => 150 | 29 => 151 | 20 => 164 | 21 => 165 | 22 => 166 | 23 => 167 | 24 => 168 | 25 => 169 | 26 => 170 | 27 => 171 | 46 => 202 | 47 => 190 | 48 => 191 | 49 => 203 | 50 => 204 | 57 => 232 | n => n,fun | 22 => 24 | 24 => 90 | 25 => 127 | 3 => 3 | 39 => 140 | 0 => 0 | 53 => 181 | 55 => 171 | 4 => 4 | 46 => 175 | 45 => 174 | 50 => 32 | 5 => 5 | 9 => 9 | 66 => 205 | 70 => 209 | 76 => 226 | 77 => 227 | n => n,fun | n => n⟩
theorem Tryz.sortSeg : Go.Proofs.SlLaysF0.n6 Tryz.prog Tryz.sortSeg_ren := {
 mixed := by kernel_rfl
 f6 := ⟨Tryz.f91.name,by decide,Tryz.func91.trans (congrArg some (by kernel_rfl))⟩
 f14 := ⟨Tryz.f126.name,by decide,Tryz.func126.trans (congrArg some (by kernel_rfl))⟩
 f15 := Tryz.func108.trans (congrArg some (by kernel_rfl))
 f20 := ⟨Tryz.f164.name,by decide,Tryz.func164.trans (congrArg some (by kernel_rfl))⟩
 f21 := ⟨Tryz.f165.name,by decide,Tryz.func165.trans (congrArg some (by kernel_rfl))⟩
 f22 := ⟨Tryz.f166.name,by decide,Tryz.func166.trans (congrArg some (by kernel_rfl))⟩
 f23 := ⟨Tryz.f167.name,by decide,Tryz.func167.trans (congrArg some (by kernel_rfl))⟩
 f24 := ⟨Tryz.f168.name,by decide,Tryz.func168.trans (congrArg some (by kernel_rfl))⟩
 f25 := ⟨Tryz.f169.name,by decide,Tryz.func169.trans (congrArg some (by kernel_rfl))⟩
 f26 := ⟨Tryz.f170.name,by decide,Tryz.func170.trans (congrArg some (by kernel_rfl))⟩
 f27 := ⟨Tryz.f171.name,by decide,Tryz.func171.trans (congrArg some (by kernel_rfl))⟩
 f28 := Tryz.func150.trans (congrArg some (by kernel_rfl))
 f29 := Tryz.func151.trans (congrArg some (by kernel_rfl))
 f46 := ⟨Tryz.f202.name,by decide,Tryz.func202.trans (congrArg some (by kernel_rfl))⟩
 f47 := Tryz.func190.trans (congrArg some (by kernel_rfl))
 f48 := Tryz.func191.trans (congrArg some (by kernel_rfl))
 f49 := ⟨Tryz.f203.name,by decide,Tryz.func203.trans (congrArg some (by kernel_rfl))⟩
 f50 := ⟨Tryz.f204.name,by decide,Tryz.func204.trans (congrArg some (by kernel_rfl))⟩
 f57 := ⟨Tryz.f232.name,by decide,Tryz.func232.trans (congrArg some (by kernel_rfl))⟩
 t0 := Tryz.underlying0
 a0 := Tryz.isAgg0
 z0 := Tryz.sizeOf0
 v0 := Tryz.zeroValue0
 t3 := Tryz.underlying3
 a3 := Tryz.isAgg3
 z3 := Tryz.sizeOf3
 v3 := Tryz.zeroValue3
 t4 := Tryz.underlying4
 a4 := Tryz.isAgg4
 z4 := Tryz.sizeOf4
 v4 := Tryz.zeroValue4
 t5 := Tryz.underlying5
 a5 := Tryz.isAgg5
 z5 := Tryz.sizeOf5
 v5 := Tryz.zeroValue5
 t9 := Tryz.underlying9
 a9 := Tryz.isAgg9
 z9 := Tryz.sizeOf9
 v9 := Tryz.zeroValue9
 t22 := Tryz.underlying24
 a22 := Tryz.isAgg24
 z22 := Tryz.sizeOf24
 v22 := Tryz.zeroValue24
 t25 := Tryz.underlying127
 a25 := Tryz.isAgg127
 z25 := Tryz.sizeOf127
 v25 := Tryz.zeroValue127
 t39 := Tryz.underlying140
 a39 := Tryz.isAgg140
 z39 := Tryz.sizeOf140
 v39 := Tryz.zeroValue140
 t45 := Tryz.underlying174
 a45 := Tryz.isAgg174
 z45 := Tryz.sizeOf174
 v45 := Tryz.zeroValue174
 t46 := Tryz.underlying175
 a46 := Tryz.isAgg175
 z46 := Tryz.sizeOf175
 v46 := Tryz.zeroValue175
 t50 := Tryz.underlying32
 a50 := Tryz.isAgg32
 z50 := Tryz.sizeOf32
 v50 := Tryz.zeroValue32
 t53 := Tryz.underlying181
 a53 := Tryz.isAgg181
 z53 := Tryz.sizeOf181
 v53 := Tryz.zeroValue181
 t55 := Tryz.underlying171
 a55 := Tryz.isAgg171
 z55 := Tryz.sizeOf171
 v55 := Tryz.zeroValue171
 t66 := Tryz.underlying205
 a66 := Tryz.isAgg205
 z66 := Tryz.sizeOf205
 v66 := Tryz.zeroValue205
 t70 := Tryz.underlying209
 a70 := Tryz.isAgg209
 z70 := Tryz.sizeOf209
 v70 := Tryz.zeroValue209
 t76 := Tryz.underlying226
 a76 := Tryz.isAgg226
 z76 := Tryz.sizeOf226
 v76 := Tryz.zeroValue226
 t77 := Tryz.underlying227
 a77 := Tryz.isAgg227
 z77 := Tryz.sizeOf227
 v77 := Tryz.zeroValue227 }
end Go.Proofs
namespace Go.Proofs.YtbagikgpgdlkcaaGreatDoor
open Go.RowKit Go.Maps Go.WideMaps Go.Sort
def encT (x : Tri3) : List Value := [.int .i64 x.1,.int .i64 x.2.1,.int .i64 x.2.2]
theorem encT_len (x : Tri3) : (encT x).length = 3 := rfl
theorem encT_one (x : Tri3) : ∀ v ∈ encT x,v.oneCell' = true := by
 intro v hv
 simp [encT] at hv
 rcases hv with rfl | rfl | rfl <;> rfl
theorem compareInt_lt {x y : Int} : Lib.compareInt x y < 0 ↔ x < y := by
 unfold Lib.compareInt
 by_cases h1 : x < y
 ·simp [h1]
 ·by_cases h2 : x > y
  ·simp [h1,h2]
  ·simp [h1,h2]
theorem cmpT_lt (x y : Tri3) : cmpT x y < 0 ↔ ltT x y := by
 unfold cmpT ltT
 split
 ·rw [compareInt_lt]; omega
 ·split
  ·rw [compareInt_lt]; omega
  ·rw [compareInt_lt]; omega
theorem ltOf_cmpT (x y : Tri3) : ltOf cmpT x y = true ↔ ltT x y := by
 unfold ltOf
 rw [decide_eq_true_eq]
 exact cmpT_lt x y
theorem ltOf_cmpT' (x y : Tri3) : ltOf cmpT x y = false ↔ ¬ltT x y := by
 rw [← ltOf_cmpT]; simp
theorem swoT : SWO (ltOf cmpT) where
 irrefl x := (ltOf_cmpT' x x).2 (ltT_irr x)
 trans x y z h1 h2 := (ltOf_cmpT x z).2 (ltT_trans x y z ((ltOf_cmpT x y).1 h1) ((ltOf_cmpT y z).1 h2))
 ntrans x y z h1 h2 := by
  rw [ltOf_cmpT'] at *
  unfold ltT at *
  omega
theorem enters_triCmp : ∀ args w,(callFunc 85 args).run Tryz.prog w = .ok (.enter 85 args) w := enters_of Tryz.func85 (by kernel_rfl) rfl
theorem sortFuncTri {base : Nat} (l : List Tri3) (v : Value) (kb : Nat) (w : World) (h : w.ownsRow base 61 3 v l.length (cellsK encT l)) (hk : w.cell? ⟨kb,0,none⟩ = some (.func (.func 45) #[] #[])) (hne : v.ownBlock ≠ some kb) (hl : l.length ≤ 4611686018427387900) :
  Calls Tryz.prog 84 #[v,.func (.func 85) #[] #[.pointer (some ⟨kb,0,none⟩)]] w fun r w' =>
   r = .returned (.tuple #[]) ∧ ∃ l' : List Tri3,l'.Perm l ∧ l'.Pairwise (fun x y => ¬ltT y x) ∧ w'.ownsRow base 61 3 v l.length (cellsK encT l') ∧ w.grownBy w' v.ownBlock := by
 rcases h.2 with ⟨rfl,h0⟩ | ⟨g,cap,cur,rfl,hb,hh,hn,hm,hs,ht⟩
 ·have hnil : l = [] := List.length_eq_zero_iff.1 h0
  subst hnil
  have hc := AnyF.slices_SortFunc_none (P := Tryz.prog) Tryz.sortTri none 0 (.func (.func 85) #[] #[.pointer (some ⟨kb,0,none⟩)]) w
  change Calls Tryz.prog 84 _ _ _ at hc
  refine hc.mono ?_
  rintro r w' ⟨rfl,rfl⟩
  exact ⟨rfl,[],List.Perm.refl _,List.Pairwise.nil,h,⟨rfl,rfl,rfl,Nat.le_refl _,fun _ _ _ => rfl⟩⟩
 ·have hkb : kb ≠ g := fun e => hne (by rw [e]; rfl)
  have hkl := World.block_lt_of_cell? _ _ hk
  have hgl : g < w.heap.size := (Array.getElem?_eq_some_iff.1 hh).1
  have hcmp : CmpLays Tryz.prog 85 #[.pointer (some ⟨kb,0,none⟩)] encT 3 cmpT g 0 l.toArray.size w := by
   intro m os dk _ x y
   refine (triCmp_walk kb x y _ ?_).mono ?_
   ·unfold sortWorldK
    rw [cell?_grow _ _ _ (by show kb < (putRowK _ _ _ _ _ _).heap.size; rw [size_putRowK]; exact hkl),cell?_putRowK_other _ _ _ _ _ _ _ hkb]
    exact hk
   ·rintro r w' ⟨he,q,os', hw⟩
    exact ⟨he,q,os', hw⟩
  have hcon := AnyQ.slices_SortFunc (P := Tryz.prog) Tryz.sortTri 3 Tryz.isAgg61 Tryz.sizeOf61 encT encT_len encT_one cmpT swoT 85 #[.pointer (some ⟨kb,0,none⟩)] g 0 cap l.toArray w enters_triCmp hcmp (owns_holdsK encT_len h) hgl (by rw [List.size_toArray]; omega)
  change Calls Tryz.prog 84 _ _ _ at hcon
  rw [List.size_toArray] at hcon
  refine hcon.mono ?_
  rintro r w' ⟨rfl,d,n,os,hp,hsd,rfl⟩
  have hds : d.size = l.length := by have := hp.1; simpa using this
  obtain ⟨o1,o2⟩ := sort_back encT_len h d n os hds
  refine ⟨rfl,d.toList,permIn_list hp,?_,o1,o2⟩
  refine List.Pairwise.imp ?_ (sortedIn_list hds hsd)
  intro x y hxy
  exact fun e => hxy ((ltOf_cmpT y x).2 e)
theorem sortedTri_walk {base : Nat} (l : List Tri3) (v : Value) (w : World) (h : w.ownsRow base 61 3 v l.length (cellsK encT l)) (hl : l.length ≤ 4611686018427387900) :
  Calls Tryz.prog 44 #[v,.func (.func 45) #[] #[]] w fun r w' =>
   r = .returned v ∧ ∃ l' : List Tri3,l'.Perm l ∧ l'.Pairwise (fun x y => ¬ltT y x) ∧ w'.ownsRow base 61 3 v l.length (cellsK encT l') ∧ w.grownBy w' v.ownBlock := by
 have hc := sortFuncTri l v w.heap.size (w.alloc (.cells #[.func (.func 45) #[] #[]] 82)) (h.alloc _) (by rw [World.cell?_alloc_at _ _ _ _ rfl]; rfl) (fun e => by have := (h.lt _ e).2; omega) hl
 have HC := Lib.hid hc
 have HS : Hid (∀ w', (w.alloc (.cells #[.func (.func 45) #[] #[]] 82)).grownBy w' v.ownBlock → w.grownBy w' v.ownBlock) := fun w' hg =>
  ⟨hg.os,hg.tape,hg.output,Nat.le_trans (by simp) hg.size,fun i hi hne => (hg.block i (by simp; omega) hne).trans (((Below.refl _ w).alloc (Nat.le_refl _) _).block i hi)⟩
 clear hc h
 go_enter Tryz.func44,Tryz.ntmps44
 go_wp2_with (go_at_call 84; refine HC.out.mono ?_; rintro r w1 ⟨rfl,l', h1,h2,h3,h4⟩)
 go_ret
 exact ⟨rfl,l', h1,h2,h3,HS.out _ h4⟩
end Go.Proofs.YtbagikgpgdlkcaaGreatDoor
namespace Go.Proofs.YtbagikgpgdlkcaaGreatDoor
open Go.RowKit Go.Maps Go.WideMaps
theorem infoTri : (Tryz.prog.info? 61).map (fun i => (i.zero,i.size,i.bytes)) = some (some (.agg #[.int .i64 0,.int .i64 0,.int .i64 0]),3,24) := by kernel_rfl
theorem addr_add0 (n j : Nat) : ((⟨n,0,none⟩ : Addr).add j) = ⟨n,j,none⟩ := by rw [Addr.add_lit,Nat.zero_add]
theorem range_round {k e : Nat} {w wr w1 W w2 : World} {ba r n : Nat} {f : Value → Option Value} {lf : Value → Bool} {cnt base : Nat} {v : Value} {xs : List Value} {m : Nat}
  (hr : w.heap.size = r) (hba : ba < w.heap.size) (hb : w.heap.size < base) (hbw : Below w.heap.size w wr) (hg1 : wr.grownBy w1 (some r)) (hrg1 : FRange Tryz.prog w1 80 ba r n f lf cnt) (hb1 : Below w1.heap.size w1 W)
  (hv : w1.ownsRow base e k v m xs) (hg2 : W.grownBy w2 v.ownBlock) : FRange Tryz.prog w2 80 ba r n f lf cnt ∧ Below w.heap.size w w2 := by
 have hlt := hv.lt
 have n1 : some ba ≠ v.ownBlock := fun e => by have := (hlt _ e.symm).1; omega
 have n2 : some r ≠ v.ownBlock := fun e => by have := (hlt _ e.symm).1; omega
 have g0 : w1.grownBy W none := ⟨hb1.os,hb1.tape,hb1.output,hb1.size,fun i hi _ => hb1.block i hi⟩
 have s0 := hbw.size
 have s1 := hg1.size
 have s2 := hb1.size
 refine ⟨(hrg1.kept g0 (by simp) (by simp)).kept hg2 n1 n2,?_⟩
 refine Below.grown ?_ hg2 (by omega) (fun j hj => by have := (hlt _ hj).1; omega)
 exact (hbw.grown hg1 s0 (fun j hj => by cases hj; omega)).trans (hb1.mono (by omega))
theorem tris_short {ap : Int → Int → Option Int} {n : Nat} {L : List Tri3} (hl : n ≤ 1048576) (hn : L.Nodup) (hm : ∀ y,y ∈ L ↔ y ∈ trisL ap n) : L.length ≤ 4611686018427387900 := by
 have h1 := nodup_len L _ hn fun y hy => (hm y).1 hy
 have h2 : (trisL ap n).length ≤ n * n := by
  unfold trisL
  rw [List.length_map]
  exact Nat.le_trans (List.length_filter_le _ _) (Nat.le_of_eq (idxL_len n))
 have h3 : n * n ≤ 1048576 * 1048576 := Nat.mul_le_mul hl hl
 omega
theorem tri_len {ap : Int → Int → Option Int} {n : Nat} {lf : Value → Bool} {L : List Tri3} (hl : n ≤ 1048576) (hw : Within ap n) (h : GotG ap (triG ap) lf L) : L.length ≤ 1099511627776 := by
 have h1 := nodup_len L (trisL ap n) h.1 fun y hy => by
  obtain ⟨x,a,b,_⟩ := (h.2 y).1 hy
  exact (triG_mem hw y).1 ⟨x,a,b⟩
 have h2 : (trisL ap n).length ≤ n * n := by
  unfold trisL
  rw [List.length_map]
  exact Nat.le_trans (List.length_filter_le _ _) (Nat.le_of_eq (idxL_len n))
 have h3 : n * n ≤ 1048576 * 1048576 := Nat.mul_le_mul hl hl
 omega
theorem tris_walk {w : World} {mb n : Nat} {M : MeshM} {F : Nat → Prop} (h : MeshAt w mb n M F) (hw : Within M.ap M.P.length) (hl : M.P.length ≤ 1048576) :
  Calls Tryz.prog 11 #[.pointer (some ⟨mb,0,none⟩)] w fun r w' => ∃ v,r = .returned v ∧ w'.ownsRow (w.heap.size + 1) 61 3 v (trisL M.ap M.P.length).length (cellsK encT (trisL M.ap M.P.length)) ∧ Below w.heap.size w w' := by
 obtain ⟨ba,bs,bf,pv,sv,h⟩ := h
 have c1 := h.c1
 have HF := Lib.hid h.apm
 have HBA := Lib.hid (h.flt ba h.fba)
 have HW := Lib.hid hw
 have HL := Lib.hid hl
 clear h hw hl
 obtain ⟨i0,hi,hz0,hz1,hz2⟩ := info_parts infoTri
 go_enter Tryz.func11,Tryz.ntmps11
 go_wp2_with (at_range; refine wp_range _ rfl _ 76 rfl 80 3 edgeLaw Tryz.underlying76 ba n _ rfl HF.out ?_; intro w0 hrg0 hg0 hs0)
 go_frame
 have HR0 := Lib.hid hrg0
 have HG0 := Lib.hid hg0
 have HS0 := Lib.hid hs0
 clear hrg0 hg0 hs0
 go_loopw [3] (fun s3 wr => ∃ (L : List Tri3) (lf : Value → Bool) (cnt : Nat),Hid (FRange Tryz.prog wr 80 ba w.heap.size n (edgeV M.ap) lf cnt) ∧ Hid (wr.ownsRow (w.heap.size + 1) 61 3 s3 L.length (cellsK encT L)) ∧ Hid (GotG M.ap (triG M.ap) lf L) ∧ Hid (Below w.heap.size w wr)) (fun _ wr => wr.rangeLeft ba w.heap.size)
 case atStart =>
  refine ⟨[],_,_,HR0.out,World.ownsRow_nil _ _ _ _,GotG.start (fun a b hab => ?_),?_⟩
  ·rw [edgeV_isSome]; exact Option.isSome_iff_ne_none.2 hab
  ·exact (Below.refl _ w).grown HG0.out (Nat.le_refl _) (fun j hj => by cases hj)
 case round =>
  obtain ⟨L,lf,cnt,HR,HO,HGO,HB⟩ := hrel
  go_wp2_with (first | (at_next; refine wp_next _ rfl _ rfl 80 edgeLaw (fun x : Int × Int => kE x.1 x.2) vI ba w.heap.size n (edgeV M.ap) (fun key h => edgeV_ne h) (fun key v h => edgeV_val h) lf cnt rfl HR.out ?_ ?_) | go_in)
  ·intro hd
   have HM : Hid (∀ y,y ∈ L ↔ y ∈ trisL M.ap M.P.length) := fun y => (HGO.out.done hd y).trans (triG_mem HW.out y)
   have HND := Lib.hid HGO.out.1
   clear hd
   have HSO := Lib.hid (sortedTri_walk L u3 wr HO.out (tris_short HL.out HND.out HM.out))
   go_wp2_with (go_at_call 44; refine HSO.out.mono ?_; rintro r w2 ⟨rfl,l', h1,h2,h3,h4⟩)
   go_ret
   have e : l' = trisL M.ap M.P.length := pw_unique ltT_irr ltT_trans _ _ (pw_strict ltT_tot l' (h1.nodup_iff.2 HND.out) h2) (trisL_sorted _ _) fun y => h1.mem_iff.trans (HM.out y)
   have el : L.length = (trisL M.ap M.P.length).length := by rw [← e,h1.length_eq]
   refine ⟨_,rfl,?_,HB.out.grown h4 HB.out.size (fun j hj => by have := (HO.out.lt _ hj).1; omega)⟩
   rw [← el,← e]
   exact h3
  ·intro a b c w1 cnt1 lf1 hlx hfx hl1 hl2 hrg1 hlt1 hg1 hs1 hen
   have HX1 := Lib.hid (edgeV_some hfx)
   have HRG := Lib.hid hrg1
   have HG1 := Lib.hid hg1
   have HLT : Hid (w1.rangeLeft ba w.heap.size < wr.rangeLeft ba w.heap.size) := by unfold Hid; rw [hrg1.left_eq,HR.out.left_eq]; exact hlt1
   have HO1 : Hid (w1.ownsRow (w.heap.size + 1) 61 3 u3 L.length (cellsK encT L)) := HO.out.kept HG1.out (by
    cases hv : u3.ownBlock with
    | none => exact .inl rfl
    | some g => right; intro e; cases e; have := (HO.out.lt _ hv).1; omega)
   have HLX := Lib.hid hlx
   have HL1 := Lib.hid hl1
   have HL2 := Lib.hid hl2
   clear hlx hfx hl1 hl2 hrg1 hlt1 hg1 hs1
   simp only [kE,vI] at hen
   have HLEN := Lib.hid (tri_len HL.out HW.out HGO.out)
   have HRK : Hid (FRange Tryz.prog (w1.alloc (.cells #[.int .i64 a,.int .i64 b] 80)) 80 ba w.heap.size n (edgeV M.ap) lf1 cnt1) := HRG.out.kept (World.grownBy_alloc _ _ none) (by simp) (by simp)
   have HBK : Hid (Below w.heap.size w (w1.alloc (.cells #[.int .i64 a,.int .i64 b] 80))) :=
    (HB.out.grown HG1.out HB.out.size (fun j hj => by cases hj; omega)).alloc (by have := HB.out.size; have := HG1.out.size; omega) _
   by_cases q1 : a < b
   ·by_cases q2 : a < c
    ·have HGA : Hid (GotG M.ap (triG M.ap) lf1 (L ++ [(a,b,c)])) := HGO.out.add triG_inj (x := (a,b)) (by dsimp only; rw [HX1.out]; simp) HLX.out (by unfold triG leadB triOf; dsimp only; rw [HX1.out]; simp [q1,q2]) HL1.out HL2.out
     go_wp2_with (first | (at_builtin; refine wpList_append_own _ rfl _ _ 23 rfl (w.heap.size + 1) 61 i0 (.agg #[.int .i64 0,.int .i64 0,.int .i64 0]) 3 24 Tryz.underlying23 hi hz0 hz1 hz2 rfl (by decide) u3 L.length (cellsK encT L) rfl ((HO1.out.alloc _).alloc _) ⟨w1.heap.size + 1,0,none⟩ 1 1 (encT (a,b,c)) rfl ?qc1 ?qc2 ?qc3 ?qc4 ?qc5 ?qc6 ?_) | go_in)
     case qc1 => rfl
     case qc2 =>
      intro j u hj
      have := cells_new (w1.alloc (.cells #[.int .i64 a,.int .i64 b] 80)) (encT (a,b,c)) 61 j u hj
      simpa [encT] using this
     case qc3 => exact encT_one _
     case qc4 => have := HLEN.out; unfold maxLen; omega
     case qc5 => have := HLEN.out; omega
     case qc6 => have := HB.out.size; have := HG1.out.size; have := (HO1.out); simp; omega
     intro v' w2 hown hgrow hnil
     obtain ⟨f1,f2⟩ := range_round rfl HBA.out (Nat.lt_succ_self _) HB.out HG1.out HRG.out (((Below.refl _ w1).alloc (Nat.le_refl _) _).alloc (by simp) _) HO1.out hgrow
     have HF1 := Lib.hid f1
     have HF2 := Lib.hid f2
     have HOW : Hid (w2.ownsRow (w.heap.size + 1) 61 3 v' (L ++ [(a,b,c)]).length (cellsK encT (L ++ [(a,b,c)]))) := by
      unfold Hid; rw [cellsK_append,cellsK_one,List.length_append]; exact hown
     clear f1 f2 hown hgrow hnil
     go_wp2
     go_roundw
     case rel => exact ⟨L ++ [(a,b,c)],lf1,cnt1,HF1.out,HOW.out,HGA,HF2.out⟩
     case measure => rw [HF1.out.left_eq,← HRG.out.left_eq]; exact HLT.out
    ·
     have HGA : Hid (GotG M.ap (triG M.ap) lf1 L) := HGO.out.skip (x := (a,b)) (by unfold triG leadB; dsimp only; rw [HX1.out]; simp [q1,q2]) HL2.out
     go_wp2
     go_roundw
     case rel => exact ⟨L,lf1,cnt1,HRK.out,HO1.out.alloc _,HGA,HBK.out⟩
     case measure => rw [HRK.out.left_eq,← HRG.out.left_eq]; exact HLT.out
   ·
    have HGA : Hid (GotG M.ap (triG M.ap) lf1 L) := HGO.out.skip (x := (a,b)) (by unfold triG leadB; dsimp only; rw [HX1.out]; simp [q1]) HL2.out
    go_wp2
    go_roundw
    case rel => exact ⟨L,lf1,cnt1,HRK.out,HO1.out.alloc _,HGA,HBK.out⟩
    case measure => rw [HRK.out.left_eq,← HRG.out.left_eq]; exact HLT.out
end Go.Proofs.YtbagikgpgdlkcaaGreatDoor
namespace Go.Proofs.YtbagikgpgdlkcaaGreatDoor
open Go.RowKit
def vP (x : Int × Int) : Value := .agg #[.int .i64 x.1,.int .i64 x.2]
theorem pairKey_walk (x : Int × Int) (w : World) :
  Calls Tryz.prog 94 #[vP x] w fun e w' => e = .returned (vT (x.1,x.2,0)) ∧ w' = ((w.alloc (.cells #[.int .i64 x.1,.int .i64 x.2] 42)).alloc (.cells #[.int .i64 x.1,.int .i64 x.2,.int .i64 0] 60)) := by
 obtain ⟨a,b⟩ := x
 unfold vP vT
 go_enter Tryz.func94,Tryz.ntmps94
 go_wp2
 go_returns
 exact ⟨rfl,rfl⟩
def CmpS2 (w : World) (kb : Nat) (k : Value) (b c : Nat) (x y : Int × Int) : Prop := w.cell? ⟨kb,0,none⟩ = some k ∧ w.cell? ⟨b,0,none⟩ = some (.int .i64 x.1) ∧ w.cell? ⟨b,1,none⟩ = some (.int .i64 x.2)
 ∧ w.cell? ⟨c,0,none⟩ = some (.int .i64 y.1) ∧ w.cell? ⟨c,1,none⟩ = some (.int .i64 y.2)
theorem CmpS2.drew {w : World} {kb : Nat} {k : Value} {b c : Nat} {x y : Int × Int} (h : CmpS2 w kb k b c x y) : CmpS2 w.drew kb k b c x y := h
theorem CmpS2.alloc {w : World} {kb : Nat} {k : Value} {b c : Nat} {x y : Int × Int} (h : CmpS2 w kb k b c x y) {o : Obj} : CmpS2 (w.alloc o) kb k b c x y :=
 ⟨Lib.cell?_alloc_some _ h.1,Lib.cell?_alloc_some _ h.2.1,Lib.cell?_alloc_some _ h.2.2.1,Lib.cell?_alloc_some _ h.2.2.2.1,Lib.cell?_alloc_some _ h.2.2.2.2⟩
theorem pairCmp_walk (kb : Nat) (x y : Int × Int) (w : World) (hk : w.cell? ⟨kb,0,none⟩ = some (.func (.func 94) #[] #[])) :
  Calls Tryz.prog 128 #[vP x,vP y,.pointer (some ⟨kb,0,none⟩)] w fun e w' => e = .returned (.int .i64 (cmpT (x.1,x.2,0) (y.1,y.2,0))) ∧ Grew w w' := by
 have HX := Lib.hid (pairKey_walk x)
 have HY := Lib.hid (pairKey_walk y)
 have HC := Lib.hid (fun p q => compare_walk p q (x.1,x.2,0) (y.1,y.2,0))
 have hkl := World.block_lt_of_cell? _ _ hk
 obtain ⟨x0,x1⟩ := x
 obtain ⟨y0,y1⟩ := y
 unfold vP vT at *
 dsimp only at HX HY HC
 generalize cmpT (x0,x1,0) (y0,y1,0) = z at *
 have hB : CmpS2 ((w.alloc (.cells #[.int .i64 x0,.int .i64 x1] 42)).alloc (.cells #[.int .i64 y0,.int .i64 y1] 42)) kb (.func (.func 94) #[] #[]) w.heap.size (w.heap.size + 1) (x0,x1) (y0,y1) := by
  refine ⟨Lib.cell?_alloc_some _ (Lib.cell?_alloc_some _ hk),?_,?_,?_,?_⟩ <;> simp
 go_enter Tryz.func128,Tryz.ntmps128
 have HB := Lib.hid hB
 clear hB hk
 go_upto_region 1 with fail
 go_cut [6,7] from 8 to 13 (fun s6 s7 wx => ∃ p q : Nat,s6 = .pointer (some ⟨p,0,none⟩) ∧ s7 = .pointer (some ⟨q,0,none⟩) ∧ Hid (CmpC wx p q (x0,x1,0) (y0,y1,0)) ∧ Hid (Grew w wx))
 case first =>
  go_region_held3 (fun w' => w'.cell? ⟨kb,0,none⟩ = some (.func (.func 94) #[] #[]) ∧ w'.cell? ⟨w.heap.size,0,none⟩ = some (.int .i64 x0) ∧ w'.cell? ⟨w.heap.size,1,none⟩ = some (.int .i64 x1)
    ∧ w'.cell? ⟨w.heap.size + 1,0,none⟩ = some (.int .i64 y0) ∧ w'.cell? ⟨w.heap.size + 1,1,none⟩ = some (.int .i64 y1))
   (first | (change CmpS2 _ kb (.func (.func 94) #[] #[]) w.heap.size (w.heap.size + 1) (x0,x1) (y0,y1); repeat (first | with_reducible exact HB.out | with_reducible apply CmpS2.drew | with_reducible apply CmpS2.alloc)))
   (first
    |(go_at_call 94; (first | (with_reducible refine (HX.out _).mono ?_) | (with_reducible refine (HY.out _).mono ?_)); rintro r w1 ⟨rfl,rfl⟩))
  all_goals
   go_wp2_with fail
   go_meet
   refine ⟨_,_,rfl,rfl,?_,?_⟩
   ·refine ⟨?_,?_,?_,?_,?_,?_⟩ <;> (repeat (first | (refine (World.cell?_alloc_at _ _ _ _ ?_).trans ?_; (focus (simp; done)); rfl) | with_reducible apply Lib.cell?_alloc_some | with_reducible apply cellDrew))
   ·unfold Hid
    repeat (first | with_reducible exact Grew.refl _ | with_reducible apply Grew.drewN | with_reducible apply Grew.drew | with_reducible apply Grew.alloc)
 case rest =>
  obtain ⟨p,q,rfl,rfl,HCC,HG⟩ := hcut
  clear HX HY HB
  obtain ⟨p0,p1,p2,q0,q1,q2⟩ := HCC.out
  have HCC2 := Lib.hid (HC.out p q wc.drew p0 p1 p2 q0 q1 q2)
  clear p0 p1 p2 q0 q1 q2
  go_wp2
  go_region_held3 (fun w' => w' = wc.drew) (first | rfl | assumption) (first | (go_at_call 86; refine HCC2.out.mono ?_; rintro r w1 ⟨rfl,rfl⟩))
  go_wp2
  go_ret
  exact ⟨rfl,HG.out.drew⟩
open Go.Maps Go.WideMaps Go.Sort
def encP (x : Int × Int) : List Value := [.int .i64 x.1,.int .i64 x.2]
theorem encP_len (x : Int × Int) : (encP x).length = 2 := rfl
theorem encP_one (x : Int × Int) : ∀ v ∈ encP x,v.oneCell' = true := by
 intro v hv
 simp [encP] at hv
 rcases hv with rfl | rfl <;> rfl
def cmpP (x y : Int × Int) : Int := cmpT (x.1,x.2,0) (y.1,y.2,0)
theorem ltOf_cmpP (x y : Int × Int) : ltOf cmpP x y = true ↔ ltP x y := by
 have := ltOf_cmpT (x.1,x.2,0) (y.1,y.2,0)
 have e : ltOf cmpP x y = ltOf cmpT (x.1,x.2,0) (y.1,y.2,0) := rfl
 rw [e,this]
 unfold ltT ltP
 dsimp only
 omega
theorem ltOf_cmpP' (x y : Int × Int) : ltOf cmpP x y = false ↔ ¬ltP x y := by
 rw [← ltOf_cmpP]; simp
theorem swoP : SWO (ltOf cmpP) where
 irrefl x := (ltOf_cmpP' x x).2 (ltP_irr x)
 trans x y z h1 h2 := (ltOf_cmpP x z).2 (ltP_trans x y z ((ltOf_cmpP x y).1 h1) ((ltOf_cmpP y z).1 h2))
 ntrans x y z h1 h2 := by
  rw [ltOf_cmpP'] at *
  unfold ltP at *
  omega
theorem enters_pairCmp : ∀ args w,(callFunc 128 args).run Tryz.prog w = .ok (.enter 128 args) w := enters_of Tryz.func128 (by kernel_rfl) rfl
theorem sortFuncPair {base : Nat} (l : List (Int × Int)) (v : Value) (kb : Nat) (w : World) (h : w.ownsRow base 42 2 v l.length (cellsK encP l)) (hk : w.cell? ⟨kb,0,none⟩ = some (.func (.func 94) #[] #[])) (hne : v.ownBlock ≠ some kb) (hl : l.length ≤ 4611686018427387900) :
  Calls Tryz.prog 127 #[v,.func (.func 128) #[] #[.pointer (some ⟨kb,0,none⟩)]] w fun r w' =>
   r = .returned (.tuple #[]) ∧ ∃ l' : List (Int × Int),l'.Perm l ∧ l'.Pairwise (fun x y => ¬ltP y x) ∧ w'.ownsRow base 42 2 v l.length (cellsK encP l') ∧ w.grownBy w' v.ownBlock := by
 rcases h.2 with ⟨rfl,h0⟩ | ⟨g,cap,cur,rfl,hb,hh,hn,hm,hs,ht⟩
 ·have hnil : l = [] := List.length_eq_zero_iff.1 h0
  subst hnil
  have hc := AnyF.slices_SortFunc_none (P := Tryz.prog) Tryz.sortPair none 0 (.func (.func 128) #[] #[.pointer (some ⟨kb,0,none⟩)]) w
  change Calls Tryz.prog 127 _ _ _ at hc
  refine hc.mono ?_
  rintro r w' ⟨rfl,rfl⟩
  exact ⟨rfl,[],List.Perm.refl _,List.Pairwise.nil,h,⟨rfl,rfl,rfl,Nat.le_refl _,fun _ _ _ => rfl⟩⟩
 ·have hkb : kb ≠ g := fun e => hne (by rw [e]; rfl)
  have hkl := World.block_lt_of_cell? _ _ hk
  have hgl : g < w.heap.size := (Array.getElem?_eq_some_iff.1 hh).1
  have hcmp : CmpLays Tryz.prog 128 #[.pointer (some ⟨kb,0,none⟩)] encP 2 cmpP g 0 l.toArray.size w := by
   intro m os dk _ x y
   refine (pairCmp_walk kb x y _ ?_).mono ?_
   ·unfold sortWorldK
    rw [cell?_grow _ _ _ (by show kb < (putRowK _ _ _ _ _ _).heap.size; rw [size_putRowK]; exact hkl),cell?_putRowK_other _ _ _ _ _ _ _ hkb]
    exact hk
   ·rintro r w' ⟨he,q,os', hw⟩
    exact ⟨he,q,os', hw⟩
  have hcon := AnyQ.slices_SortFunc (P := Tryz.prog) Tryz.sortPair 2 Tryz.isAgg42 Tryz.sizeOf42 encP encP_len encP_one cmpP swoP 128 #[.pointer (some ⟨kb,0,none⟩)] g 0 cap l.toArray w enters_pairCmp hcmp (owns_holdsK encP_len h) hgl (by rw [List.size_toArray]; omega)
  change Calls Tryz.prog 127 _ _ _ at hcon
  rw [List.size_toArray] at hcon
  refine hcon.mono ?_
  rintro r w' ⟨rfl,d,n,os,hp,hsd,rfl⟩
  have hds : d.size = l.length := by have := hp.1; simpa using this
  obtain ⟨o1,o2⟩ := sort_back encP_len h d n os hds
  refine ⟨rfl,d.toList,permIn_list hp,?_,o1,o2⟩
  refine List.Pairwise.imp ?_ (sortedIn_list hds hsd)
  intro x y hxy
  exact fun e => hxy ((ltOf_cmpP y x).2 e)
theorem sortedPair_walk {base : Nat} (l : List (Int × Int)) (v : Value) (w : World) (h : w.ownsRow base 42 2 v l.length (cellsK encP l)) (hl : l.length ≤ 4611686018427387900) :
  Calls Tryz.prog 93 #[v,.func (.func 94) #[] #[]] w fun r w' =>
   r = .returned v ∧ ∃ l' : List (Int × Int),l'.Perm l ∧ l'.Pairwise (fun x y => ¬ltP y x) ∧ w'.ownsRow base 42 2 v l.length (cellsK encP l') ∧ w.grownBy w' v.ownBlock := by
 have hc := sortFuncPair l v w.heap.size (w.alloc (.cells #[.func (.func 94) #[] #[]] 129)) (h.alloc _) (by rw [World.cell?_alloc_at _ _ _ _ rfl]; rfl) (fun e => by have := (h.lt _ e).2; omega) hl
 have HC := Lib.hid hc
 have HS : Hid (∀ w', (w.alloc (.cells #[.func (.func 94) #[] #[]] 129)).grownBy w' v.ownBlock → w.grownBy w' v.ownBlock) := fun w' hg =>
  ⟨hg.os,hg.tape,hg.output,Nat.le_trans (by simp) hg.size,fun i hi hne => (hg.block i (by simp; omega) hne).trans (((Below.refl _ w).alloc (Nat.le_refl _) _).block i hi)⟩
 clear hc h
 go_enter Tryz.func93,Tryz.ntmps93
 go_wp2_with (go_at_call 127; refine HC.out.mono ?_; rintro r w1 ⟨rfl,l', h1,h2,h3,h4⟩)
 go_ret
 exact ⟨rfl,l', h1,h2,h3,HS.out _ h4⟩
theorem pairs_walk {base : Nat} (l : List (Int × Int)) (v : Value) (w : World) (h : w.ownsRow base 42 2 v l.length (cellsK encP l)) (hl : l.length ≤ 4611686018427387900) :
  Calls Tryz.prog 60 #[v] w fun r w' =>
   r = .returned v ∧ ∃ l' : List (Int × Int),l'.Perm l ∧ l'.Pairwise (fun x y => ¬ltP y x) ∧ w'.ownsRow base 42 2 v l.length (cellsK encP l') ∧ w.grownBy w' v.ownBlock := by
 have HC := Lib.hid (sortedPair_walk l v w h hl)
 clear h
 go_enter Tryz.func60,Tryz.ntmps60
 go_wp2_with (go_at_call 93; refine HC.out.mono ?_; rintro r w1 ⟨rfl,l', h1,h2,h3,h4⟩)
 go_ret
 exact ⟨rfl,l', h1,h2,h3,h4⟩
end Go.Proofs.YtbagikgpgdlkcaaGreatDoor
