/- Part of the proof. No conditions. -/
import Derived.Test.YtbagikgpgdlkcaaGreatDoorZO
set_option linter.all false
set_option maxHeartbeats 8000000
set_option maxRecDepth 100000
namespace Go.Proofs.YtbagikgpgdlkcaaGreatDoor
open Go.RowKit Go.Maps Go.WideMaps
theorem run_item (a b : Int) (d : Nat) (w : World) : (Op.equalIn (d + 1) 3 (.int .i64 a) (.int .i64 b)).run Tryz.prog w = .ok (a == b) w := run_equalIn_int w d 3 .i64 .i64 a b Tryz.underlying3
theorem run_item9 (a b : Int) (w : World) : (Op.equalIn 9999 3 (.int .i64 a) (.int .i64 b)).run Tryz.prog w = .ok (a == b) w := run_item a b 9998 w
theorem part3_0 (a b c : Int) (w : World) : (part 3 #[.int .i64 a,.int .i64 b,.int .i64 c] 0).run Tryz.prog w = .ok (.int .i64 a) w := by kernel_rfl
theorem part3_1 (a b c : Int) (w : World) : (part 3 #[.int .i64 a,.int .i64 b,.int .i64 c] 1).run Tryz.prog w = .ok (.int .i64 b) w := by kernel_rfl
theorem part3_2 (a b c : Int) (w : World) : (part 3 #[.int .i64 a,.int .i64 b,.int .i64 c] 2).run Tryz.prog w = .ok (.int .i64 c) w := by kernel_rfl
theorem cells_int : Tryz.prog.cellsOf 3 = 1 := by kernel_rfl
theorem equalT (a b c x y z : Int) (w : World) : (Op.equalIn 10000 61 (.agg #[.int .i64 a,.int .i64 b,.int .i64 c]) (.agg #[.int .i64 x,.int .i64 y,.int .i64 z])).run Tryz.prog w = .ok (a == x && (b == y && c == z)) w := by
 obtain ⟨i0,hi,hz0,hz1,hz2⟩ := info_parts infoInt
 rw [show (10000 : Nat) = 9998 + 1 + 1 from rfl,run_equalIn_array w (9998 + 1) _ _ Tryz.underlying61 hi,cells_int]
 simp only [List.range,List.range.loop,Op.eqItems,Sem.run_bind,Nat.mul_one,part3_0,Result.andThen_ok,run_item]
 cases h1 : a == x <;> cases h2 : b == y <;> cases h3 : c == z <;> simp [part3_1,part3_2,run_item9,h2,h3]
theorem neqT (a b c x y z : Int) (w : World) : (binOp .neq 61 (.agg #[.int .i64 a,.int .i64 b,.int .i64 c]) (.agg #[.int .i64 x,.int .i64 y,.int .i64 z])).run Tryz.prog w = .ok (.bool !(a == x && (b == y && c == z))) w := by
 rw [run_neq_struct,equalT]; rfl
theorem neqT_self (a b c : Int) (w : World) : (binOp .neq 61 (.agg #[.int .i64 a,.int .i64 b,.int .i64 c]) (.agg #[.int .i64 a,.int .i64 b,.int .i64 c])).run Tryz.prog w = .ok (.bool false) w := by rw [neqT]; simp
theorem KCells.tri {w : World} {ad : Option Addr} {l : List Tri3} (h : KCells encT w ad l) {k : Nat} (hk : k < l.length) : ∃ g,ad = some ⟨g,0,none⟩ ∧ g < w.heap.size ∧
  w.cell? ⟨g,k * 3,none⟩ = some (.int .i64 (l.getD k (0,0,0)).1) ∧ w.cell? ⟨g,k * 3 + 1,none⟩ = some (.int .i64 (l.getD k (0,0,0)).2.1) ∧ w.cell? ⟨g,k * 3 + 2,none⟩ = some (.int .i64 (l.getD k (0,0,0)).2.2) := by
 obtain ⟨g,rfl,hg,hc⟩ := h (by omega)
 have e : l.getD k (0,0,0) = l[k] := by rw [List.getD_eq_getElem?_getD,List.getElem?_eq_getElem hk]; rfl
 have a := cellsK_at encT_len l k hk
 refine ⟨g,rfl,hg,hc _ _ ?_,hc _ _ ?_,hc _ _ ?_⟩
 ·rw [e]; have := a 0 (by omega); rw [Nat.add_zero] at this; exact this
 ·rw [e]; exact a 1 (by omega)
 ·rw [e]; exact a 2 (by omega)
theorem KCells.pair {w : World} {ad : Option Addr} {l : List (Int × Int)} (h : KCells encP w ad l) {k : Nat} (hk : k < l.length) : ∃ g,ad = some ⟨g,0,none⟩ ∧ g < w.heap.size ∧
  w.cell? ⟨g,k * 2,none⟩ = some (.int .i64 (l.getD k (0,0)).1) ∧ w.cell? ⟨g,k * 2 + 1,none⟩ = some (.int .i64 (l.getD k (0,0)).2) := by
 obtain ⟨g,rfl,hg,hc⟩ := h (by omega)
 have e : l.getD k (0,0) = l[k] := by rw [List.getD_eq_getElem?_getD,List.getElem?_eq_getElem hk]; rfl
 have a := cellsK_at encP_len l k hk
 refine ⟨g,rfl,hg,hc _ _ ?_,hc _ _ ?_⟩
 ·rw [e]; have := a 0 (by omega); rw [Nat.add_zero] at this; exact this
 ·rw [e]; exact a 1 (by omega)
theorem sameTris_walk (l : List Tri3) (ad bd : Option Addr) (ca cb : Nat) (w : World) (ha : KCells encT w ad l) (hb : KCells encT w bd l) (hl : l.length ≤ 1000000000000) :
  Calls Tryz.prog 14 #[.slice ad l.length ca,.slice bd l.length cb] w fun r w' => r = .returned (.bool true) ∧ Below w.heap.size w w' := by
 have HA := Lib.hid ha
 have HB := Lib.hid hb
 clear ha hb
 go_enter Tryz.func14,Tryz.ntmps14
 go_wp2
 go_loopw [5] (fun s5 wr => ∃ k : Nat,k ≤ l.length ∧ s5 = .int .i64 k ∧ Hid (Below w.heap.size w wr)) (fun i _ => l.length - (intOf i).toNat)
 case atStart => exact ⟨0,Nat.zero_le _,rfl,Below.refl _ _⟩
 case round =>
  obtain ⟨k,hk,rfl,HBW⟩ := hrel
  by_cases hlt : k < l.length
  ·obtain ⟨g,rfl,hg,a0,a1,a2⟩ := (HA.out.below HBW.out).tri hlt
   obtain ⟨h,rfl,hh,b0,b1,b2⟩ := (HB.out.below HBW.out).tri hlt
   generalize l.getD k (0,0,0) = t at *
   obtain ⟨x,y,z⟩ := t
   dsimp only at a0 a1 a2 b0 b1 b2
   have hq := neqT_self x y z
   go_wp2
   go_region_held3 (fun w' => w' = wr.drew) (first | rfl | assumption) (fail)
   go_wp2
   go_roundw
   case rel => exact ⟨k + 1,by omega,(by first | rfl | rw [wrapS (by omega)]),HBW.out.drew⟩
   case measure => first | (simp [intOf]; omega) | (rw [wrapS (by omega)]; simp [intOf]; omega)
  ·have e : k = l.length := by omega
   subst e
   clear hlt hk
   go_wp2
   go_ret
   exact ⟨rfl,HBW.out⟩
def fxM (M : MeshM) (fx' : Int → Int → Option Int) : MeshM := { M with fx := fx' }
theorem fx_parts {w w' : World} {mb ba bs bf n : Nat} {pv : Value} {sv : Int → Option Value} {M : MeshM} {F : Nat → Prop} (h : MeshParts w mb ba bs bf n pv sv M F) {fx' : Int → Int → Option Int} (hf : FMap Tryz.prog w' 80 bf (n + 1) (edgeV fx')) (hg : w.grownBy w' (some bf)) :
  MeshParts w' mb ba bs bf (n + 1) pv sv (fxM M fx') F := by
 have hs : ∀ i,i < w.heap.size → i ≠ bf → w'.heap[i]? = w.heap[i]? := fun i hi hne => hg.block i hi (by simpa using hne)
 have hmb := h.mb_ne h.fxm
 have hc : ∀ i,w'.cell? ⟨mb,i,none⟩ = w.cell? ⟨mb,i,none⟩ := fun i => World.cell?_of_block (hs mb (h.flt _ h.fmb) hmb)
 obtain ⟨es,cl,h2⟩ := h.fxm.isMap
 have hpv : ∀ g,pv.ownBlock = some g → g ≠ bf := by
  intro g hpg e
  subst e
  rcases h.pts.2 with ⟨h1,_⟩ | ⟨g', cap,cur,h1,_,hh,_⟩
  ·rw [h1] at hpg; simp [Value.ownBlock] at hpg
  ·rw [h1] at hpg; simp [Value.ownBlock] at hpg; subst hpg; rw [hh] at h2; cases h2
 have hrow : ∀ a v g,sv a = some v → v.ownBlock = some g → g ≠ bf := by
  intro a v g hv hvg e
  subst e
  rcases (h.rows.own a v hv).1.2 with ⟨rfl,_⟩ | ⟨g', cap,cur,rfl,_,hh,_⟩
  ·simp [Value.ownBlock] at hvg
  ·simp [Value.ownBlock] at hvg; subst hvg; rw [hh] at h2; cases h2
 have hcb := h.cb
 exact ⟨(hc 0).trans h.c0,(hc 1).trans h.c1,(hc 2).trans h.c2,(hc 3).trans h.c3,(hc 4).trans h.c4,fun i => (World.frozen?_of_block (hs mb (h.flt _ h.fmb) hmb)).trans (h.fz i),
  ownsRow_same h.pts fun g hg => hs g (h.flt g (h.fpv g hg)) (hpv g hg),(h.apm.mono (Nat.le_succ n)).same (hs ba (h.flt _ h.fba) h.naf),(h.spm.mono (Nat.le_succ n)).same (hs bs (h.flt _ h.fbs) h.nsf),hf,
  ⟨h.rows.none,fun a v hv => ⟨ownsRow_same (h.rows.own a v hv).1 fun g hvg => hs g (h.flt g (h.rows.inF a v g hv hvg).1) (hrow a v g hv hvg),(h.rows.own a v hv).2⟩,h.rows.dis,h.rows.inF⟩,
  h.nab,h.naf,h.nsf,h.npm,h.fmb,h.fba,h.fbs,h.fbf,h.fpv,fun g hF => Nat.lt_of_lt_of_le (h.flt g hF) hg.size,fun a => Nat.le_trans (h.spl a) (Nat.le_succ n),⟨by show -((n + 1 : Nat) : Int) ≤ M.cnt; omega,by show M.cnt ≤ ((n + 1 : Nat) : Int); omega⟩⟩
theorem fix_none {w : World} {mb n : Nat} {M : MeshM} {F : Nat → Prop} (h : MeshAt w mb n M F) (a b v : Int) (hx : hasM M a = false ∨ (hasM M a = true ∧ hasM M b = false)) :
  Calls Tryz.prog 39 #[.pointer (some ⟨mb,0,none⟩),.int .i64 a,.int .i64 b,.int .i64 v] w fun r w' => r = .returned (.int .i64 11) ∧ w' = w := by
 have HA := Lib.hid (has_walk h a)
 have HB := Lib.hid (has_walk h b)
 clear h
 rcases hx with hx | ⟨hx,hy⟩
 ·rw [hx] at HA
  clear hx HB
  go_enter Tryz.func39,Tryz.ntmps39
  go_wp2_with (go_at_call 75; refine HA.out.mono ?_; rintro r w1 ⟨rfl,rfl⟩)
  go_ret
  exact ⟨rfl,rfl⟩
 ·rw [hx] at HA
  rw [hy] at HB
  clear hx hy
  go_enter Tryz.func39,Tryz.ntmps39
  go_wp2_with (first
   |(go_at_call 75; with_reducible refine HA.out.mono ?_; rintro r w1 ⟨rfl,rfl⟩)
   |(go_at_call 75; with_reducible refine HB.out.mono ?_; rintro r w1 ⟨rfl,rfl⟩))
  go_ret
  exact ⟨rfl,rfl⟩
theorem fix_same {w : World} {mb n : Nat} {M : MeshM} {F : Nat → Prop} (h : MeshAt w mb n M F) (a v : Int) (hx : hasM M a = true) :
  Calls Tryz.prog 39 #[.pointer (some ⟨mb,0,none⟩),.int .i64 a,.int .i64 a,.int .i64 v] w fun r w' => r = .returned (.int .i64 1) ∧ w' = w := by
 have HA := Lib.hid (has_walk h a)
 rw [hx] at HA
 clear h hx
 go_enter Tryz.func39,Tryz.ntmps39
 go_wp2_with (go_at_call 75; refine HA.out.mono ?_; rintro r w1 ⟨rfl,rfl⟩)
 go_ret
 exact ⟨rfl,rfl⟩
end Go.Proofs.YtbagikgpgdlkcaaGreatDoor
