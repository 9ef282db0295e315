/- Part of the proof. No conditions. -/
import Derived.Test.YtbagikgpgdlkcaaGreatDoorZG
set_option linter.all false
set_option maxHeartbeats 8000000
set_option maxRecDepth 100000
namespace Go.Proofs.YtbagikgpgdlkcaaGreatDoor
open Go.RowKit Tvf Go.Maps Go.WideMaps
theorem nmul_zero {x y : NumP} {ad bd : Option Addr} {ca cb : Nat} {w : World} (h0 : x.S = 0 ∨ (x.S ≠ 0 ∧ y.S = 0)) :
  Calls Tryz.prog 123 #[NumA x ad ca,NumA y bd cb] w fun r w' => r = .returned (.agg #[.int .i64 0,.slice none 0 0,.int .i64 0]) ∧ Below w.heap.size w w' := by
 have HB3 : Hid (∀ o1 o2 o3,Below w.heap.size w (((w.alloc o1).alloc o2).alloc o3)) := fun o1 o2 o3 => (((Below.refl _ w).alloc (Nat.le_refl _) o1).alloc (by simp) o2).alloc (by simp; omega) o3
 unfold NumA
 rcases h0 with hx0 | ⟨hx0,hy0⟩
 all_goals
  go_enter Tryz.func123,Tryz.ntmps123
  go_wp2
  go_returns
  exact ⟨rfl,HB3.out _ _ _⟩
def S6 (W : World) (p q : Nat) (x0 x1 x2 y0 y1 y2 : Value) : Prop := W.cell? ⟨p,0,none⟩ = some x0 ∧ W.cell? ⟨p,1,none⟩ = some x1 ∧ W.cell? ⟨p,2,none⟩ = some x2 ∧ W.cell? ⟨q,0,none⟩ = some y0 ∧ W.cell? ⟨q,1,none⟩ = some y1 ∧ W.cell? ⟨q,2,none⟩ = some y2
theorem S6.alloc {W : World} {p q : Nat} {x0 x1 x2 y0 y1 y2 : Value} (h : S6 W p q x0 x1 x2 y0 y1 y2) (o : Obj) : S6 (W.alloc o) p q x0 x1 x2 y0 y1 y2 := ⟨cell_al h.1 o,cell_al h.2.1 o,cell_al h.2.2.1 o,cell_al h.2.2.2.1 o,cell_al h.2.2.2.2.1 o,cell_al h.2.2.2.2.2 o⟩
theorem S6.drew {W : World} {p q : Nat} {x0 x1 x2 y0 y1 y2 : Value} (h : S6 W p q x0 x1 x2 y0 y1 y2) : S6 W.drew p q x0 x1 x2 y0 y1 y2 := h
structure MMem (W3 : World) (S E : Int) (L : Nat) (W : World) (p g : Nat) (O : List Nat) : Prop where
 box : Box3 124 W p (.int .i64 S) (.slice (some ⟨g,0,none⟩) L L) (.int .i64 E)
 row : BoxN 2 W g (dC O).toArray
 ne : p ≠ g
 lp : W3.heap.size ≤ p
 lg : W3.heap.size ≤ g
 low : Below W3.heap.size W3 W
theorem MMem.at_ {W3 : World} {S E : Int} {L : Nat} {W : World} {p g : Nat} {O : List Nat} (h : MMem W3 S E L W p g O) {j : Nat} (hj : j < O.length) : W.cell? ⟨g,j,none⟩ = some (.int .i64 (O.getD j 0 : Nat)) := by
 rw [h.row.c j,List.getElem?_toArray]; exact dC_at hj
theorem dC_set (l : List Nat) (j d : Nat) (hj : j < (dC l).toArray.size) : (dC l).toArray.set j (.int .i64 (d : Nat)) hj = (dC (l.set j d)).toArray := by
 apply Array.ext'
 simp [dC,List.map_set]
theorem MMem.set {W3 : World} {S E : Int} {L : Nat} {W : World} {p g : Nat} {O : List Nat} (h : MMem W3 S E L W p g O) {j : Nat} (hj : j < O.length) (d : Nat) : MMem W3 S E L (W.setCell ⟨g,j,none⟩ (.int .i64 (d : Nat))) p g (O.set j d) := by
 have hs : j < (dC O).toArray.size := by rw [List.size_toArray,dC_len]; exact hj
 refine ⟨h.box.far h.ne _,?_,h.ne,h.lp,h.lg,h.low.setCell (p := ⟨g,j,none⟩) h.lg _⟩
 rw [← dC_set O j d hs]
 exact h.row.set j _ hs
theorem MMem.drew {W3 : World} {S E : Int} {L : Nat} {W : World} {p g : Nat} {O : List Nat} (h : MMem W3 S E L W p g O) : MMem W3 S E L W.drew p g O := ⟨h.box,h.row,h.ne,h.lp,h.lg,h.low.drew⟩
theorem wf_pos {x : NumP} (h : Wf x) (h0 : x.S ≠ 0) : 0 < x.D.length := by
 apply Nat.pos_of_ne_zero
 intro e
 have : x.D = [] := List.length_eq_zero_iff.1 e
 exact h0 (h.z.2 (by rw [this]; rfl))
theorem mul_round {o a b c : Nat} (ho : o < BB) (ha : a < BB) (hb : b < BB) (hc : c < BB) : a * b < 281474976710656 ∧ o + a * b < 281475000000000 ∧ o + a * b + c < 281475100000000 := by
 have h1 : a * b ≤ (BB - 1) * (BB - 1) := Nat.mul_le_mul (by omega) (by omega)
 rw [BB_eq] at *
 omega
theorem wrap_smK {n : Int} (h0 : 0 ≤ n) (h1 : n < 1000000000000000) : IntKind.i64.wrap n = n := by
 simp [IntKind.wrap,IntKind.bits,IntKind.signed]; omega
theorem wrapK {k : Nat} (h : k ≤ 4000000000000) : wrap64 ((k : Int) + 1) = ((k + 1 : Nat) : Int) := by unfold wrap64; omega
theorem carry_small {o c : Nat} (h1 : o < BB) (h2 : c < BB) : o + c < 281475100000000 := by rw [BB_eq] at h1 h2; omega
theorem mul_val {x y : NumP} {O : List Nat} {e1 e2 : Nat} (h1 : -(e1 : Int) ≤ x.E) (h2 : -(e2 : Int) ≤ y.E) (he : e1 + e2 ≤ 190) (h : mag O = mag x.D * mag y.D) : nv ⟨x.S * y.S,O,x.E + y.E⟩ * (BB ^ 200 : Nat) = nv x * nv y := by
 have hp : BB ^ placeE (x.E + y.E) * BB ^ 200 = BB ^ placeE x.E * BB ^ placeE y.E := by
  unfold placeE
  rw [← Nat.pow_add,← Nat.pow_add]
  congr 1
  omega
 have hm : mv ⟨x.S * y.S,O,x.E + y.E⟩ * BB ^ 200 = mv x * mv y := by
  show mag O * BB ^ placeE (x.E + y.E) * BB ^ 200 = mag x.D * BB ^ placeE x.E * (mag y.D * BB ^ placeE y.E)
  rw [h,Nat.mul_assoc,hp]
  generalize BB ^ placeE x.E = a
  generalize BB ^ placeE y.E = b
  rw [Nat.mul_assoc,Nat.mul_assoc,← Nat.mul_assoc (mag y.D),Nat.mul_comm (mag y.D) a,Nat.mul_assoc]
 show x.S * y.S * (mv ⟨x.S * y.S,O,x.E + y.E⟩ : Int) * (BB ^ 200 : Nat) = x.S * (mv x : Int) * (y.S * (mv y : Int))
 have hi : ((mv ⟨x.S * y.S,O,x.E + y.E⟩ : Nat) : Int) * ((BB ^ 200 : Nat) : Int) = (mv x : Int) * (mv y : Int) := by
  rw [← Int.natCast_mul,hm,Int.natCast_mul]
 rw [Int.mul_assoc,hi]
 generalize (mv x : Int) = u
 generalize (mv y : Int) = v
 rw [Int.mul_assoc,Int.mul_assoc,← Int.mul_assoc y.S u v,Int.mul_comm y.S u,Int.mul_assoc]
theorem mul_tm (V : Nat) : (V : Int).tmod 16777216 = ((V % BB : Nat) : Int) := by rw [BB_eq,Int.tmod_eq_emod_of_nonneg (by omega)]; omega
theorem mul_td (V : Nat) : (V : Int).tdiv 16777216 = ((V / BB : Nat) : Int) := by rw [BB_eq,Int.tdiv_eq_ediv_of_nonneg (by omega)]; omega
theorem mul_small2 {V : Nat} (h : V < 281475100000000) : wrap64 ((V % BB : Nat) : Int) = ((V % BB : Nat) : Int) ∧ wrap64 ((V / BB : Nat) : Int) = ((V / BB : Nat) : Int) := by rw [BB_eq]; unfold wrap64; omega
theorem mul_prod (a b : Nat) (h : a * b < 281474976710656) : IntKind.i64.wrap ((a : Int) * (b : Int)) = ((a * b : Nat) : Int) := by rw [← Int.natCast_mul]; exact wrap_smK (by omega) (by omega)
theorem mul_sum (a b : Nat) (h : a + b < 281475100000000) : IntKind.i64.wrap ((a : Int) + (b : Int)) = ((a + b : Nat) : Int) := by rw [← Int.natCast_add]; exact wrap_smK (by omega) (by omega)
theorem mul_prod2 (a b : Nat) (h : a * b < 281474976710656) : wrap64 ((a : Int) * (b : Int)) = ((a * b : Nat) : Int) := by rw [← Int.natCast_mul]; unfold wrap64; omega
theorem mul_sum2 (a b : Nat) (h : a + b < 281475100000000) : wrap64 ((a : Int) + (b : Int)) = ((a + b : Nat) : Int) := by rw [← Int.natCast_add]; unfold wrap64; omega
theorem mem_a (W3 : World) (S E : Int) (L : Nat) (O : List Nat) : MMem W3 S E L (((W3.alloc (.cells (dC O).toArray 2)).alloc (.cells #[.int .i64 S,.slice (some ⟨W3.heap.size,0,none⟩) L L,.int .i64 E] 124)).drew) (W3.heap.size + 1) W3.heap.size O := by
 have e1 : (W3.alloc (.cells (dC O).toArray 2)).heap.size = W3.heap.size + 1 := by simp
 have h1 := (BoxN.new W3 (dC O).toArray 2).al (.cells #[.int .i64 S,.slice (some ⟨W3.heap.size,0,none⟩) L L,.int .i64 E] 124)
 have h2 := Box3.new (W3.alloc (.cells (dC O).toArray 2)) (.int .i64 S) (.slice (some ⟨W3.heap.size,0,none⟩) L L) (.int .i64 E) 124
 rw [e1] at h2
 exact ⟨h2,h1,by omega,by omega,Nat.le_refl _,(((Below.refl _ _).alloc (Nat.le_refl _) _).alloc (by simp) _).drew⟩
theorem mem_b (W3 : World) (S E : Int) (L : Nat) (O : List Nat) : MMem W3 S E L (((W3.alloc (.cells #[.int .i64 S,.slice (some ⟨W3.heap.size + 1,0,none⟩) L L,.int .i64 E] 124)).alloc (.cells (dC O).toArray 2)).drew) W3.heap.size (W3.heap.size + 1) O := by
 have e1 : (W3.alloc (.cells #[.int .i64 S,.slice (some ⟨W3.heap.size + 1,0,none⟩) L L,.int .i64 E] 124)).heap.size = W3.heap.size + 1 := by simp
 have h1 := (Box3.new W3 (.int .i64 S) (.slice (some ⟨W3.heap.size + 1,0,none⟩) L L) (.int .i64 E) 124).al (.cells (dC O).toArray 2)
 have h2 := BoxN.new (W3.alloc (.cells #[.int .i64 S,.slice (some ⟨W3.heap.size + 1,0,none⟩) L L,.int .i64 E] 124)) (dC O).toArray 2
 rw [e1] at h2
 exact ⟨h1,h2,by omega,Nat.le_refl _,by omega,(((Below.refl _ _).alloc (Nat.le_refl _) _).alloc (by simp) _).drew⟩
theorem mul_made (n : Nat) : madeCells (Value.int .i64 0).cells n = (dC (List.replicate n 0)).toArray := by
 have h : (madeCells #[Value.int .i64 0] n).toList = dC (List.replicate n 0) := by
  rw [toList_madeCells_one]
  unfold dC
  rw [List.map_replicate]; rfl
 exact Array.ext' (by rw [← h]; rfl)
theorem nmul_main {x y : NumP} {ad bd : Option Addr} {ca cb e1 e2 : Nat} {w : World} (hdx : DAt w ad x.D) (hdy : DAt w bd y.D) (he : e1 + e2 ≤ 190) (hrx : Rng e1 x) (hry : Rng e2 y) (hwx : Wf x) (hwy : Wf y) (hx0 : x.S ≠ 0) (hy0 : y.S ≠ 0) :
  Calls Tryz.prog 123 #[NumA x ad ca,NumA y bd cb] w fun r w' => ∃ z v,r = .returned v ∧ NumV w' v z ∧ Wf z ∧ nv z * (BB ^ 200 : Nat) = nv x * nv y ∧ Rng (e1 + e2) z ∧ Below w.heap.size w w' := by
 have hbx0 : (x.S == 0) = false := by simpa using hx0
 have hby0 : (y.S == 0) = false := by simpa using hy0
 obtain ⟨W3,hW3⟩ : ∃ W3,Hid (W3 = (((w.alloc (.cells #[.int .i64 x.S,.slice ad x.D.length ca,.int .i64 x.E] 124)).alloc (.cells #[.int .i64 y.S,.slice bd y.D.length cb,.int .i64 y.E] 124)).alloc (.cells #[.int .i64 0,.slice none 0 0,.int .i64 0] 124))) := ⟨_,rfl⟩
 obtain ⟨hbx,hby,hbr,hbw,_⟩ := boxes3 (w := w) (Wp := W3) (.int .i64 x.S) (.slice ad x.D.length ca) (.int .i64 x.E) (.int .i64 y.S) (.slice bd y.D.length cb) (.int .i64 y.E) (.int .i64 0) (.slice none 0 0) (.int .i64 0) 124 (by rw [hW3.out]; exact Below.refl _ _)
 have HK : Hid (∀ W,Below W3.heap.size W3 W → Six 124 W w.heap.size (w.heap.size + 1) (.int .i64 x.S) (.slice ad x.D.length ca) (.int .i64 x.E) (.int .i64 y.S) (.slice bd y.D.length cb) (.int .i64 y.E)) := fun W hb => ⟨hbx.below hb,hby.below hb⟩
 have N0 : Hid (S6 W3 w.heap.size (w.heap.size + 1) (.int .i64 x.S) (.slice ad x.D.length ca) (.int .i64 x.E) (.int .i64 y.S) (.slice bd y.D.length cb) (.int .i64 y.E)) := (HK.out _ (Below.refl _ W3)).o
 have hxs : x.S = 1 ∨ x.S = -1 := by have := hwx.sg; omega
 have hys : y.S = 1 ∨ y.S = -1 := by have := hwy.sg; omega
 have HSS : Hid (x.S * y.S = 1 ∨ x.S * y.S = -1) := by unfold Hid; rcases hxs with h | h <;> rcases hys with h' | h' <;> rw [h,h'] <;> decide
 have hw1 : IntKind.i64.wrap (x.S * y.S) = x.S * y.S := by rcases HSS.out with h | h <;> rw [h] <;> decide
 have HLL : Hid (x.D.length ≤ 400 ∧ y.D.length ≤ 400) := by have := hrx.lo; have := hrx.hi; have := hry.lo; have := hry.hi; unfold Hid; omega
 have hw2 : IntKind.i64.wrap ((x.D.length : Int) + (y.D.length : Int)) = ((x.D.length + y.D.length : Nat) : Int) := by have := HLL.out; simp [IntKind.wrap,IntKind.bits,IntKind.signed]; omega
 have hw3 : IntKind.i64.wrap (x.E + y.E) = x.E + y.E := by have := hrx.lo; have := hrx.hi; have := hry.lo; have := hry.hi; simp [IntKind.wrap,IntKind.bits,IntKind.signed]; omega
 have hmk : ∀ u : World,(Instr.makeSlice 122 (.int .i64 ((x.D.length : Int) + (y.D.length : Int))) (.int .i64 ((x.D.length : Int) + (y.D.length : Int)))).run Tryz.prog u = .ok (.slice (some ⟨u.heap.size,0,none⟩) (x.D.length + y.D.length) (x.D.length + y.D.length)) (u.alloc (.cells (dC (List.replicate (x.D.length + y.D.length) 0)).toArray 2)) := fun u => by
  have hl := HLL.out
  obtain ⟨i0,hi,hz0,hz1,hz2⟩ := info_parts infoI64
  have := run_makeSlice (P := Tryz.prog) u 122 2 i0 (.int .i64 0) Tryz.underlying122 hi hz0 .i64 .i64 ((x.D.length + y.D.length : Nat) : Int) ((x.D.length + y.D.length : Nat) : Int) (by omega) (by omega) (by rw [hz1]; omega) (by rw [hz2]; omega) (by omega)
  rw [Int.toNat_natCast,hz1,Nat.mul_one,mul_made] at this
  simpa using this
 have hz1 : (0 : Int) ≤ ((x.D.length + y.D.length : Nat) : Int) := by omega
 unfold NumA
 go_enter Tryz.func123,Tryz.ntmps123
 go_upto_region 3 with fail
 rw [← hW3.out]
 go_cut [5] from 19 to 104 (fun s5 wx => ∃ p g : Nat,s5 = .pointer (some ⟨p,0,none⟩) ∧ Hid (MMem W3 (x.S * y.S) (x.E + y.E) (x.D.length + y.D.length) wx p g (List.replicate (x.D.length + y.D.length) 0)))
 case first =>
  go_region_held3 (fun w' => w'.cell? ⟨w.heap.size,0,none⟩ = some (.int .i64 x.S) ∧ w'.cell? ⟨w.heap.size,1,none⟩ = some (.slice ad x.D.length ca) ∧ w'.cell? ⟨w.heap.size,2,none⟩ = some (.int .i64 x.E) ∧ w'.cell? ⟨w.heap.size + 1,0,none⟩ = some (.int .i64 y.S) ∧ w'.cell? ⟨w.heap.size + 1,1,none⟩ = some (.slice bd y.D.length cb) ∧ w'.cell? ⟨w.heap.size + 1,2,none⟩ = some (.int .i64 y.E))
   (first | (change S6 _ w.heap.size (w.heap.size + 1) (.int .i64 x.S) (.slice ad x.D.length ca) (.int .i64 x.E) (.int .i64 y.S) (.slice bd y.D.length cb) (.int .i64 y.E); repeat (first | with_reducible exact N0.out | with_reducible apply S6.drew | with_reducible apply S6.alloc))) (first | fail)
  all_goals
   go_wp2_with fail
   go_meet
   first | exact ⟨_,_,rfl,mem_a W3 _ _ _ _⟩ | exact ⟨_,_,rfl,mem_b W3 _ _ _ _⟩
 case rest =>
  obtain ⟨p,g,rfl,HM0⟩ := hcut
  have HBX := Lib.hid hbx
  have HBY := Lib.hid hby
  have HBR := Lib.hid hbr
  have HBW := Lib.hid hbw
  have HDX := Lib.hid (hdx.below hbw)
  have HDY := Lib.hid (hdy.below hbw)
  have HWX := Lib.hid hwx
  have HWY := Lib.hid hwy
  have HRX := Lib.hid hrx
  have HRY := Lib.hid hry
  have HEE := Lib.hid he
  have hla := wf_pos hwx hx0
  have hlb := wf_pos hwy hy0
  obtain ⟨ba,oa,rfl,hax,hcx⟩ := HDX.out hla
  obtain ⟨bb,ob,rfl,hbx2,hcy⟩ := HDY.out hlb
  have HCX : Hid (∀ W,Below W3.heap.size W3 W → ∀ i,i < x.D.length → W.cell? ⟨ba,oa + i,none⟩ = some (.int .i64 (x.D.getD i 0 : Nat))) := fun W hb i hi => (hb.cell (p := ⟨ba,oa + i,none⟩) hax.lt).trans (hcx i hi)
  have HCY : Hid (∀ W,Below W3.heap.size W3 W → ∀ i,i < y.D.length → W.cell? ⟨bb,ob + i,none⟩ = some (.int .i64 (y.D.getD i 0 : Nat))) := fun W hb i hi => (hb.cell (p := ⟨bb,ob + i,none⟩) hbx2.lt).trans (hcy i hi)
  clear hax hcx hbx2 hcy
  clear hmk hz1 hw1 hw2 hw3 N0 HK hbx hby hbr hbw hdx hdy hwx hwy hrx hry he hbx0 hby0 hx0 hy0 hxs hys
  go_wp2
  go_loopw [6] (fun s6 wr => ∃ (i : Nat) (O : List Nat),i ≤ x.D.length ∧ s6 = .int .i64 i ∧ Hid (MulOut x.D y.D i O) ∧ Hid (MMem W3 (x.S * y.S) (x.E + y.E) (x.D.length + y.D.length) wr p g O)) (fun s6 _ => x.D.length - (intOf s6).toNat)
  case atStart => exact ⟨0,_,Nat.zero_le _,rfl,MulOut.start _ _,HM0.out⟩
  case round =>
   obtain ⟨i,O,hi,rfl,HO,HM⟩ := hrel
   have ax := (HBX.out.below HM.out.low).c
   have ay := (HBY.out.below HM.out.low).c
   by_cases hlt : i < x.D.length
   ·have hltz : (i : Int) < (x.D.length : Int) := by omega
    obtain ⟨_,a1,_⟩ := ax
    obtain ⟨_,b1,_⟩ := ay
    have HLT := Lib.hid hlt
    clear hlt
    go_wp2
    go_loopw [7,8] (fun s7 s8 wk => ∃ (k c : Nat) (P : List Nat),k ≤ y.D.length ∧ s7 = .int .i64 c ∧ s8 = .int .i64 k ∧ Hid (MulIn x.D y.D i k c P) ∧ Hid (MMem W3 (x.S * y.S) (x.E + y.E) (x.D.length + y.D.length) wk p g P)) (fun _ s8 _ => y.D.length - (intOf s8).toNat)
    case atStart => exact ⟨0,0,O,Nat.zero_le _,rfl,rfl,HO.out.inn,HM.out⟩
    case round =>
     obtain ⟨k,c,P,hk,rfl,rfl,HI,HP⟩ := hrel
     by_cases hkt : k < y.D.length
     ·have hkz : (k : Int) < (y.D.length : Int) := by omega
      have HKL := Lib.hid hkt
      have hil := HLT.out
      have hPl : P.length = x.D.length + y.D.length := HI.out.len
      obtain ⟨j,hj⟩ : ∃ j,Hid (i + k = j) := ⟨_,rfl⟩
      obtain ⟨o,ho⟩ : ∃ o,Hid (P.getD j 0 = o) := ⟨_,rfl⟩
      obtain ⟨da,hda⟩ : ∃ d,Hid (x.D.getD i 0 = d) := ⟨_,rfl⟩
      obtain ⟨db,hdb⟩ : ∃ d,Hid (y.D.getD k 0 = d) := ⟨_,rfl⟩
      obtain ⟨m,hm⟩ : ∃ m,Hid (da * db = m) := ⟨_,rfl⟩
      obtain ⟨t,ht⟩ : ∃ t,Hid (o + m = t) := ⟨_,rfl⟩
      obtain ⟨V,hV⟩ : ∃ V,Hid (t + c = V) := ⟨_,rfl⟩
      obtain ⟨d,hd⟩ : ∃ d,Hid (V % BB = d) := ⟨_,rfl⟩
      obtain ⟨c2,hc2⟩ : ∃ c2,Hid (V / BB = c2) := ⟨_,rfl⟩
      have hjl : j < P.length := by rw [← hj.out,hPl]; omega
      have hz1 : (0 : Int) ≤ (j : Int) := by omega
      have hz2 : (j : Int) < ((x.D.length + y.D.length : Nat) : Int) := by omega
      have hz3 : (j : Int) < (x.D.length : Int) + (y.D.length : Int) := by omega
      have hz4 : (0 : Int) ≤ (i : Int) := by omega
      have hz5 : (i : Int) < (x.D.length : Int) := by omega
      have hz6 : (0 : Int) ≤ (k : Int) := by omega
      have n0 : wr.cell? ⟨w.heap.size,1,none⟩ = some (.slice (some ⟨ba,oa,none⟩) x.D.length ca) ∧ wr.cell? ⟨w.heap.size + 1,1,none⟩ = some (.slice (some ⟨bb,ob,none⟩) y.D.length cb) ∧ wr.cell? ⟨p,1,none⟩ = some (.slice (some ⟨g,0,none⟩) (x.D.length + y.D.length) (x.D.length + y.D.length)) ∧
        wr.cell? ⟨g,j,none⟩ = some (.int .i64 (o : Nat)) ∧ wr.cell? ⟨ba,oa + i,none⟩ = some (.int .i64 (da : Nat)) ∧ wr.cell? ⟨bb,ob + k,none⟩ = some (.int .i64 (db : Nat)) := by
       refine ⟨(HBX.out.below HP.out.low).c.2.1,(HBY.out.below HP.out.low).c.2.1,HP.out.box.c.2.1,?_,?_,?_⟩
       ·rw [← ho.out]; exact HP.out.at_ hjl
       ·rw [← hda.out]; exact HCX.out wr HP.out.low i hil
       ·rw [← hdb.out]; exact HCY.out wr HP.out.low k hkt
      have hfz := HP.out.row.fz j
      have hmr := mul_round (o := o) (a := da) (b := db) (c := c) (by rw [← ho.out]; exact getD_dig HI.out.dig j) (by rw [← hda.out]; exact getD_dig HWX.out.dig i) (by rw [← hdb.out]; exact getD_dig HWY.out.dig k) HI.out.cr
      rw [hm.out,ht.out,hV.out] at hmr
      have hwj : wrap64 ((i : Int) + (k : Int)) = (j : Int) := by have := mul_sum2 i k (by have := HLL.out; omega); rw [hj.out] at this; exact this
      have hwm : wrap64 ((da : Int) * (db : Int)) = (m : Int) := by have := mul_prod2 da db (by rw [hm.out]; exact hmr.1); rw [hm.out] at this; exact this
      have hwt : wrap64 ((o : Int) + (m : Int)) = (t : Int) := by have := mul_sum2 o m (by rw [ht.out]; omega); rw [ht.out] at this; exact this
      have hwV : wrap64 ((t : Int) + (c : Int)) = (V : Int) := by have := mul_sum2 t c (by rw [hV.out]; exact hmr.2.2); rw [hV.out] at this; exact this
      have htm : (V : Int).tmod 16777216 = (d : Int) := by have := mul_tm V; rw [hd.out] at this; exact this
      have htd : (V : Int).tdiv 16777216 = (c2 : Int) := by have := mul_td V; rw [hc2.out] at this; exact this
      have hwdc := mul_small2 hmr.2.2
      rw [hd.out,hc2.out] at hwdc
      obtain ⟨hwd,hwc⟩ := hwdc
      have HST := Lib.hid (HI.out.step HWX.out.dig HWY.out.dig HLT.out HKL.out)
      rw [hj.out,ho.out,hda.out,hdb.out,hm.out,ht.out,hV.out,hd.out,hc2.out] at HST
      have HP2 := Lib.hid (HP.out.drew.set hjl d)
      clear hil
      have HWJ := Lib.hid hwj
      have HTM := Lib.hid htm
      have HTD := Lib.hid htd
      have HWDC : Hid (wrap64 (d : Int) = (d : Int) ∧ wrap64 (c2 : Int) = (c2 : Int)) := ⟨hwd,hwc⟩
      clear hwm hwt hwV htm htd hwd hwc hwj hfz
      have hqj : IntKind.i64.wrap ((i : Int) + (k : Int)) = (j : Int) := by have := mul_sum i k (by have := HLL.out; omega); rw [hj.out] at this; exact this
      have hqm : IntKind.i64.wrap ((da : Int) * (db : Int)) = (m : Int) := by have := mul_prod da db (by rw [hm.out]; exact hmr.1); rw [hm.out] at this; exact this
      have hqt : IntKind.i64.wrap ((o : Int) + (m : Int)) = (t : Int) := by have := mul_sum o m (by rw [ht.out]; exact Nat.lt_trans hmr.2.1 (by decide)); rw [ht.out] at this; exact this
      have hqV : IntKind.i64.wrap ((t : Int) + (c : Int)) = (V : Int) := by have := mul_sum t c (by rw [hV.out]; exact hmr.2.2); rw [hV.out] at this; exact this
      have N0 : Hid (wr.drew.cell? ⟨w.heap.size,1,none⟩ = some (.slice (some ⟨ba,oa,none⟩) x.D.length ca) ∧ wr.drew.cell? ⟨w.heap.size + 1,1,none⟩ = some (.slice (some ⟨bb,ob,none⟩) y.D.length cb) ∧ wr.drew.cell? ⟨p,1,none⟩ = some (.slice (some ⟨g,0,none⟩) (x.D.length + y.D.length) (x.D.length + y.D.length)) ∧
        wr.drew.cell? ⟨g,j,none⟩ = some (.int .i64 (o : Nat)) ∧ wr.drew.cell? ⟨ba,oa + i,none⟩ = some (.int .i64 (da : Nat)) ∧ wr.drew.cell? ⟨bb,ob + k,none⟩ = some (.int .i64 (db : Nat))) := n0
      obtain ⟨k0,k1,k2,k3,k4,k5⟩ := n0
      clear hmr hPl
      go_wp2
      go_region_held3 (fun w' => w'.cell? ⟨w.heap.size,1,none⟩ = some (.slice (some ⟨ba,oa,none⟩) x.D.length ca) ∧ w'.cell? ⟨w.heap.size + 1,1,none⟩ = some (.slice (some ⟨bb,ob,none⟩) y.D.length cb) ∧ w'.cell? ⟨p,1,none⟩ = some (.slice (some ⟨g,0,none⟩) (x.D.length + y.D.length) (x.D.length + y.D.length)) ∧
        w'.cell? ⟨g,j,none⟩ = some (.int .i64 (o : Nat)) ∧ w'.cell? ⟨ba,oa + i,none⟩ = some (.int .i64 (da : Nat)) ∧ w'.cell? ⟨bb,ob + k,none⟩ = some (.int .i64 (db : Nat)))
       (first | with_reducible exact N0.out) (first | fail)
      clear k0 k1 k2 k3 k4 k5 hqj hqm hqt hqV hz2 hz3 hz4 hz5 hz6
      obtain ⟨k0,k1,k2,k3,_,_⟩ := N0.out
      have hfz := HP.out.drew.row.fz j
      have hwj := HWJ.out
      have htm := HTM.out
      have htd := HTD.out
      obtain ⟨hwd,hwc⟩ := HWDC.out
      have hz2 : (j : Int) < ((x.D.length + y.D.length : Nat) : Int) := by have := hj.out; have := HLT.out; have := HKL.out; omega
      go_wp2
      go_roundw
      case rel => exact ⟨k + 1,c2,P.set j d,by have := HKL.out; omega,by rw [HWDC.out.2],by (first | rfl | rw [wrapK (by have := HLL.out; have := HKL.out; omega)]),HST.out,HP2.out⟩
      case measure => have := HLL.out; have := HKL.out; first | (simp [intOf]; omega) | (rw [wrapK (by omega)]; simp [intOf]; omega)
     ·have hke : k = y.D.length := by omega
      subst hke
      clear hkt hk
      have hPl : P.length = x.D.length + y.D.length := HI.out.len
      obtain ⟨j,hj⟩ : ∃ j,Hid (i + y.D.length = j) := ⟨_,rfl⟩
      have hjl : j < P.length := by rw [← hj.out,hPl]; have := HLT.out; omega
      have hz1 : (0 : Int) ≤ (j : Int) := by omega
      have hz2 : (j : Int) < ((x.D.length + y.D.length : Nat) : Int) := by omega
      have hz3 : (j : Int) < (x.D.length : Int) + (y.D.length : Int) := by omega
      have hlz : ¬((y.D.length : Nat) : Int) < (y.D.length : Int) := by omega
      obtain ⟨o,ho⟩ : ∃ o,Hid (P.getD j 0 = o) := ⟨_,rfl⟩
      obtain ⟨t,ht⟩ : ∃ t,Hid (o + c = t) := ⟨_,rfl⟩
      have hob : o < BB := by rw [← ho.out]; exact getD_dig HI.out.dig j
      have hcb : c < BB := HI.out.cr
      have hqj : IntKind.i64.wrap ((i : Int) + (y.D.length : Int)) = (j : Int) := by have := mul_sum i y.D.length (by have := HLL.out; have := HLT.out; omega); rw [hj.out] at this; exact this
      have hqt : IntKind.i64.wrap ((o : Int) + (c : Int)) = (t : Int) := by have := mul_sum o c (by rw [BB_eq] at hob hcb; omega); rw [ht.out] at this; exact this
      have HDN := Lib.hid (HI.out.done HLT.out)
      rw [hj.out,ho.out,ht.out] at HDN
      have HP2 := Lib.hid (HP.out.drew.set hjl t)
      have k1 := (HBY.out.below HP.out.low).c.2.1
      have k3 : wr.drew.cell? ⟨g,j,none⟩ = some (.int .i64 (o : Nat)) := by rw [← ho.out]; exact HP.out.at_ hjl
      have hfz := HP.out.drew.row.fz j
      have n0 : wr.drew.cell? ⟨w.heap.size + 1,1,none⟩ = some (.slice (some ⟨bb,ob,none⟩) y.D.length cb) ∧ wr.drew.cell? ⟨p,1,none⟩ = some (.slice (some ⟨g,0,none⟩) (x.D.length + y.D.length) (x.D.length + y.D.length)) := ⟨k1,HP.out.box.c.2.1⟩
      have n1 : (wr.drew.setCell ⟨g,j,none⟩ (.int .i64 (t : Nat))).cell? ⟨w.heap.size + 1,1,none⟩ = some (.slice (some ⟨bb,ob,none⟩) y.D.length cb) ∧ (wr.drew.setCell ⟨g,j,none⟩ (.int .i64 (t : Nat))).cell? ⟨p,1,none⟩ = some (.slice (some ⟨g,0,none⟩) (x.D.length + y.D.length) (x.D.length + y.D.length)) := ⟨(HBY.out.below HP2.out.low).c.2.1,HP2.out.box.c.2.1⟩
      clear hPl hob hcb
      go_wp2
      have hwj : wrap64 ((i : Int) + (y.D.length : Int)) = (j : Int) := by have := mul_sum2 i y.D.length (by have := HLL.out; have := HLT.out; omega); rw [hj.out] at this; exact this
      have hoc : o + c < 281475100000000 := carry_small (by rw [← ho.out]; exact getD_dig HI.out.dig j) HI.out.cr
      have hwt : wrap64 ((o : Int) + (c : Int)) = (t : Int) := by have := mul_sum2 o c hoc; rw [ht.out] at this; exact this
      have m1 : wr.cell? ⟨p,1,none⟩ = some (.slice (some ⟨g,0,none⟩) (x.D.length + y.D.length) (x.D.length + y.D.length)) := HP.out.box.c.2.1
      have m3 : wr.cell? ⟨g,j,none⟩ = some (.int .i64 (o : Nat)) := by rw [← ho.out]; exact HP.out.at_ hjl
      have mfz := HP.out.row.fz j
      clear n0 n1 k3 hfz hqt hoc
      go_still_tail 19,(by kernel_rfl)
      go_wp2
      go_roundw
      case rel => exact ⟨i + 1,_,by have := HLT.out; omega,(by first | rfl | rw [wrapK (by have := HLL.out; have := HLT.out; omega)]),HDN.out,HP2.out⟩
      case measure => have := HLL.out; have := HLT.out; first | (simp [intOf]; omega) | (rw [wrapK (by omega)]; simp [intOf]; omega)
   ·have hie : i = x.D.length := by omega
    subst hie
    have hlz : ¬((x.D.length : Nat) : Int) < (x.D.length : Int) := by omega
    obtain ⟨_,a1,_⟩ := ax
    have hval := HO.out.val
    rw [List.take_length] at hval
    have HVAL := Lib.hid hval
    have hOl := HO.out.len
    have HT : Hid (Calls Tryz.prog 162 #[.agg #[.int .i64 (x.S * y.S),.slice (some ⟨g,0,none⟩) (x.D.length + y.D.length) (x.D.length + y.D.length),.int .i64 (x.E + y.E)]] wr fun r w' => ∃ (z : NumP) (az : Option Addr) (cz : Nat),r = .returned (.agg #[.int .i64 z.S,.slice az z.D.length cz,.int .i64 z.E]) ∧ Hid ((DAt w' az z.D ∧ z.D.length ≤ cz) ∧ Wf z ∧ nv z = nv ⟨x.S * y.S,O,x.E + y.E⟩ ∧ Rng (e1 + e2) z ∧ Below wr.heap.size wr w')) := by
     have hd : DAt wr (some ⟨g,0,none⟩) O := fun h0 => ⟨g,0,rfl,⟨_,_,HM.out.row⟩,fun i hi => by rw [Nat.zero_add]; exact HM.out.at_ hi⟩
     have := trim_walk (x := ⟨x.S * y.S,O,x.E + y.E⟩) (cap := x.D.length + y.D.length) (e := e1 + e2) hd (by show O.length ≤ _; omega) HEE.out ⟨by have := HRX.out.lo; have := HRY.out.lo; show -((e1 + e2 : Nat) : Int) ≤ x.E + y.E; omega,by have := HRX.out.hi; have := HRY.out.hi; show x.E + y.E + (O.length : Int) ≤ ((e1 + e2 : Nat) : Int); rw [hOl]; omega⟩ HO.out.dig HSS.out
     unfold NumA at this
     dsimp only at this
     rw [hOl] at this
     refine this.mono ?_
     rintro r w' ⟨z,v,rfl,h1,h2,h3,h4,h5⟩
     obtain ⟨az,cz,rfl,h6,h7⟩ := h1.ex
     exact ⟨z,az,cz,rfl,⟨h6,h7⟩,h2,h3,h4,h5⟩
    obtain ⟨b0,b1,b2⟩ := HM.out.box.c
    have HRW := Lib.hid (HBR.out.below HM.out.low)
    clear hval hOl hlt hi
    go_wp2_with (go_at_call 162; refine HT.out.mono ?_; rintro r w5 ⟨z,az,cz,rfl,H5⟩; have R5 := Lib.hid (HRW.out.below H5.out.2.2.2.2); obtain ⟨r0,r1,r2⟩ := R5.out.c; have g0 := R5.out.fz 0; have g1 := R5.out.fz 1; have g2 := R5.out.fz 2)
    obtain ⟨f0,f1,f2⟩ := (R5.out.put (.int .i64 z.S) (.slice az z.D.length cz) (.int .i64 z.E)).c
    refine bodyPost_ret (by simp [results,Tryz.results123,go_sem,f0,f1,f2]; try rfl) rfl ?_
    have HB5 := HBW.out.trans ((HM.out.low.trans (H5.out.2.2.2.2.mono HM.out.low.size)).mono HBW.out.size)
    refine ⟨z,_,rfl,⟨az,cz,rfl,H5.out.1.1.put H5.out.2.1.lead R5.out _ _ _,H5.out.1.2⟩,H5.out.2.1,?_,H5.out.2.2.2.1,put_below HB5 (by omega) _ _ _⟩
    rw [H5.out.2.2.1]
    exact mul_val HRX.out.lo HRY.out.lo HEE.out HVAL.out
end Go.Proofs.YtbagikgpgdlkcaaGreatDoor
