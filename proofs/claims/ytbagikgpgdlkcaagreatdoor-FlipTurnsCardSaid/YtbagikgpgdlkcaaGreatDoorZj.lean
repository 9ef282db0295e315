/- Part of the proof. No conditions. -/
import Derived.Test.YtbagikgpgdlkcaaGreatDoorZe
set_option linter.all false
set_option maxHeartbeats 8000000
set_option maxRecDepth 100000
namespace Go.Proofs.YtbagikgpgdlkcaaGreatDoor
open Go.RowKit Tvf Go.Maps Go.WideMaps
section
variable {w : World} {B xb : Nat} {ad : Option Addr} {cap : Nat} {T : List Tri3} {vT : Value} {S : List Seg3} {vS : Value} {M : MeshM}
theorem apexM (h : RMs w B xb M.P ad cap T vT S vS) (tw : Twin M T) (hT : T.length ≤ 1000000) (a b : Int) :
  Calls Tryz.prog 51 #[.pointer (some ⟨xb,0,none⟩),.int .i64 a,.int .i64 b] w fun r w' => r = .returned (.tuple #[.int .i64 ((M.ap a b).getD 0),.bool (M.ap a b).isSome]) ∧ w' = w := by
 rw [tw.ap]; exact apex15 h hT a b
theorem fixedM (h : RMs w B xb M.P ad cap T vT S vS) (fx : FixT M.fx S) (hS : S.length ≤ 1000000) (a b : Int) :
  Calls Tryz.prog 53 #[.pointer (some ⟨xb,0,none⟩),.int .i64 a,.int .i64 b] w fun r w' => r = .returned (.tuple #[.int .i64 ((M.fx (minI a b) (maxI a b)).getD 0),.bool (M.fx (minI a b) (maxI a b)).isSome]) ∧ Below w.heap.size w w' := by
 rw [← fx.mark]; exact fixed15 h hS a b
end
def skipOK (md : Region.Mode) (ops : Array Oper) : List Nat → Array Bool → Act → Bool
 | [],_,_ => true
 | i :: r,listed,a => match ops[i]? with
  | some o => !(Region.wanted o (yielded ops a.tmps)) && Region.free md ops listed i && (Region.ready md ops listed).contains i && skipOK md ops r (listed.setIfInBounds i true) (a.put o.dst undef)
  | none => false
def skipAct (ops : Array Oper) : List Nat → Act → Act
 | [],a => a
 | i :: r,a => skipAct ops r (a.put (match ops[i]? with | some o => o.dst | none => none) undef)
def skipSet : List Nat → Array Bool → Array Bool
 | [],l => l
 | i :: r,l => skipSet r (l.setIfInBounds i true)
theorem wpAnyH_skips {P : Program} {md : Region.Mode} {ops : Array Oper} {Q : Exit → Act → World → Prop} {S : World → Prop} (hs : Region.noSelect ops = true) (hQ : ∀ (d : Option Tmp) c a w,Q (.panic c) (a.put d undef) w → Q (.panic c) a w) {w : World} (hS : S w) :
  ∀ (is : List Nat) (fuel : Nat) (listed : Array Bool) (a : Act),skipOK md ops is listed a = true → wpAnyH P md ops Q S fuel (skipSet is listed) (skipAct ops is a) w → wpAnyH P md ops Q S (fuel + is.length) listed a w
 | [],_,_,_,_,h => h
 | i :: r,fuel,listed,a,hk,h => by
  unfold skipOK at hk
  unfold skipSet skipAct at h
  cases e : ops[i]? with
  | none => rw [e] at hk; cases hk
  | some o =>
   rw [e] at hk h
   simp only [Bool.and_eq_true,Bool.not_eq_true'] at hk
   obtain ⟨⟨⟨h1,h2⟩,h3⟩,h4⟩ := hk
   exact wpAnyH_take e hs h2 h3 (fun c a w => hQ _ c a w) (Or.inr ⟨h1,rfl⟩) hS (wpAnyH_skips hs hQ hS r fuel _ _ h4 h)
theorem may17_no {w : World} {B xb : Nat} {ad : Option Addr} {cap : Nat} {T : List Tri3} {vT : Value} {S : List Seg3} {vS : Value} {M : MeshM} (h : RMs w B xb M.P ad cap T vT S vS) (tw : Twin M T) (hT : T.length ≤ 1000000) (a b : Int) (hq : shB M a b = false) :
  Calls Tryz.prog 20 #[.pointer (some ⟨xb,0,none⟩),.int .i64 a,.int .i64 b] w fun r w' => r = .returned (.bool false) ∧ Below w.heap.size w w' := by
 have H1 := Lib.hid (apexM h tw hT a b)
 have H2 := Lib.hid (apexM h tw hT b a)
 unfold shB at hq
 generalize (M.ap a b).getD 0 = c at *
 generalize (M.ap b a).getD 0 = d at *
 generalize (M.ap a b).isSome = p at *
 generalize (M.ap b a).isSome = q at *
 clear h tw hT
 have h2 : p = false ∨ (p = true ∧ q = false) := by cases p <;> cases q <;> simp at hq ⊢
 clear hq
 rcases h2 with rfl | ⟨rfl,rfl⟩
 all_goals
  go_enter Tryz.func20,Tryz.ntmps20
  go_wp2_with (first
   |(go_at_call 51; with_reducible refine H1.out.mono ?_; rintro r w1 ⟨rfl,rfl⟩)
   |(go_at_call 51; with_reducible refine H2.out.mono ?_; rintro r w2 ⟨rfl,rfl⟩))
  go_ret
  exact ⟨rfl,Below.refl _ _⟩
theorem may17_yes {w : World} {B xb : Nat} {ad : Option Addr} {cap : Nat} {T : List Tri3} {vT : Value} {S : List Seg3} {vS : Value} {M : MeshM} (h : RMs w B xb M.P ad cap T vT S vS) (tw : Twin M T) (fx : FixT M.fx S) (h64 : ∀ p,p ∈ M.P → pt64 p) (hT : T.length ≤ 1000000) (hS : S.length ≤ 1000000) (a b : Int) (hq : shB M a b = true) :
  Calls Tryz.prog 20 #[.pointer (some ⟨xb,0,none⟩),.int .i64 a,.int .i64 b] w fun r w' => r = .returned (.bool (mayB M a b)) ∧ Below w.heap.size w w' := by
 have H1 := Lib.hid (apexM h tw hT a b)
 have H2 := Lib.hid (apexM h tw hT b a)
 have H3 := Lib.hid (fixedM h fx hS a b)
 unfold shB at hq
 rw [Bool.and_eq_true] at hq
 obtain ⟨c,hc⟩ := Option.isSome_iff_exists.1 hq.1
 obtain ⟨d,hd⟩ := Option.isSome_iff_exists.1 hq.2
 have w1 := tw.s.within3 hc
 have w2 := tw.s.within3 hd
 have e1 : apD M a b = c := by unfold apD; rw [hc]; rfl
 have e2 : apD M b a = d := by unfold apD; rw [hd]; rfl
 unfold mayB
 rw [e1,e2]
 rw [hc] at H1
 rw [hd] at H2
 have nat : ∀ z : Int,0 ≤ z ∧ z < M.P.length → ∃ k : Nat,z = k ∧ k < M.P.length := fun z hz => ⟨z.toNat,by omega,by omega⟩
 obtain ⟨ka,rfl,la⟩ := nat a w1.1
 obtain ⟨kb,rfl,lb⟩ := nat b w1.2.1
 obtain ⟨kc,rfl,lc⟩ := nat c w1.2.2
 obtain ⟨kd,rfl,ld⟩ := nat d w2.2.2
 clear w1 w2 e1 e2 nat hq hc hd
 have H4 := Lib.hid (fun W (hb : Below w.heap.size w W) => apexM (h.below hb) tw hT (kc : Int) (kd : Int))
 have H5 := Lib.hid (fun W (hb : Below w.heap.size w W) => apexM (h.below hb) tw hT (kd : Int) (kc : Int))
 obtain ⟨b0,off,rfl,hlt,hcl⟩ := h.pts (by omega)
 have hm : ∀ i,i < M.P.length → pt64 (M.P.getD i (0,0)) := fun i hi => h64 _ (getD_memP hi)
 have HL1 := Lib.hid (fun W => left05 (hm kc lc) (hm kd ld) (hm kb lb) W)
 have HL2 := Lib.hid (fun W => left05 (hm kd ld) (hm kc lc) (hm ka la) W)
 have HN : Hid (∀ W,Below w.heap.size w W → W.cell? ⟨xb,0,none⟩ = some (.slice (some ⟨b0,off,none⟩) M.P.length cap) ∧ W.cell? ⟨b0,off + kc * 2,none⟩ = some (.float .f64 (M.P.getD kc (0,0)).1) ∧ W.cell? ⟨b0,off + kc * 2 + 1,none⟩ = some (.float .f64 (M.P.getD kc (0,0)).2) ∧ W.cell? ⟨b0,off + kd * 2,none⟩ = some (.float .f64 (M.P.getD kd (0,0)).1) ∧ W.cell? ⟨b0,off + kd * 2 + 1,none⟩ = some (.float .f64 (M.P.getD kd (0,0)).2) ∧
   W.cell? ⟨b0,off + kb * 2,none⟩ = some (.float .f64 (M.P.getD kb (0,0)).1) ∧ W.cell? ⟨b0,off + kb * 2 + 1,none⟩ = some (.float .f64 (M.P.getD kb (0,0)).2) ∧ W.cell? ⟨b0,off + ka * 2,none⟩ = some (.float .f64 (M.P.getD ka (0,0)).1) ∧ W.cell? ⟨b0,off + ka * 2 + 1,none⟩ = some (.float .f64 (M.P.getD ka (0,0)).2)) := fun W hb =>
  ⟨cell_keep h.cells.1 hb,cell_keep (hcl kc lc).1 hb,cell_keep (hcl kc lc).2 hb,cell_keep (hcl kd ld).1 hb,cell_keep (hcl kd ld).2 hb,cell_keep (hcl kb lb).1 hb,cell_keep (hcl kb lb).2 hb,cell_keep (hcl ka la).1 hb,cell_keep (hcl ka la).2 hb⟩
 have za : (0 : Int) ≤ (ka : Int) := by omega
 have zb : (0 : Int) ≤ (kb : Int) := by omega
 have zc : (0 : Int) ≤ (kc : Int) := by omega
 have zd : (0 : Int) ≤ (kd : Int) := by omega
 have ya : (ka : Int) < (M.P.length : Int) := by omega
 have yb : (kb : Int) < (M.P.length : Int) := by omega
 have yc : (kc : Int) < (M.P.length : Int) := by omega
 have yd : (kd : Int) < (M.P.length : Int) := by omega
 unfold mayM leftM
 rw [ptAt_yes la,ptAt_yes lb,ptAt_yes lc,ptAt_yes ld]
 unfold V at HL1 HL2
 clear h tw fx h64 hT hS hlt hcl hm la lb lc ld
 generalize signI (M.P.getD kc (0,0)) (M.P.getD kd (0,0)) (M.P.getD kb (0,0)) = s1 at *
 generalize signI (M.P.getD kd (0,0)) (M.P.getD kc (0,0)) (M.P.getD ka (0,0)) = s2 at *
 generalize (M.P.getD ka (0,0)).1 = pa at *
 generalize (M.P.getD ka (0,0)).2 = pa' at *
 generalize (M.P.getD kb (0,0)).1 = pb at *
 generalize (M.P.getD kb (0,0)).2 = pb' at *
 generalize (M.P.getD kc (0,0)).1 = pc at *
 generalize (M.P.getD kc (0,0)).2 = pc' at *
 generalize (M.P.getD kd (0,0)).1 = pd at *
 generalize (M.P.getD kd (0,0)).2 = pd' at *
 generalize (M.fx (minI ka kb) (maxI ka kb)).getD 0 = gf at *
 generalize (M.ap kc kd).getD 0 = gc at *
 generalize (M.ap kd kc).getD 0 = gd at *
 generalize (M.fx (minI ka kb) (maxI ka kb)).isSome = f at *
 generalize (M.ap kc kd).isSome = t at *
 generalize (M.ap kd kc).isSome = u at *
 generalize M.P.length = N at *
 have h6 : (f = true) ∨ (f = false ∧ t = true) ∨ (f = false ∧ t = false ∧ u = true) ∨ (f = false ∧ t = false ∧ u = false ∧ ¬0 < s1) ∨ (f = false ∧ t = false ∧ u = false ∧ 0 < s1 ∧ ¬0 < s2) ∨ (f = false ∧ t = false ∧ u = false ∧ 0 < s1 ∧ 0 < s2) := by
  by_cases q1 : 0 < s1 <;> by_cases q2 : 0 < s2 <;> cases f <;> cases t <;> cases u <;> simp [q1,q2]
 rcases h6 with rfl | ⟨rfl,rfl⟩ | ⟨rfl,rfl,rfl⟩ | ⟨rfl,rfl,rfl,g1⟩ | ⟨rfl,rfl,rfl,g1,g2⟩ | ⟨rfl,rfl,rfl,g1,g2⟩
 ·go_enter Tryz.func20,Tryz.ntmps20
  go_upto_region 8 with (first
   |(go_at_call 51; (with_reducible refine H1.out.mono ?_); rintro r w1 ⟨rfl,hw1⟩; obtain rfl := hw1.symm)
   |(go_at_call 51; (with_reducible refine H2.out.mono ?_); rintro r w1 ⟨rfl,hw1⟩; obtain rfl := hw1.symm)
   |(go_at_call 53; (with_reducible refine H3.out.mono ?_); rintro r w3 ⟨rfl,hb3⟩; have B3 := Lib.hid hb3; clear hb3)
   |(go_at_call 51; (with_reducible refine (H4.out _ B3.out).mono ?_); rintro r w4 ⟨rfl,hw4⟩; obtain rfl := hw4.symm)
   |(go_at_call 51; (with_reducible refine (H5.out _ B3.out).mono ?_); rintro r w4 ⟨rfl,hw4⟩; obtain rfl := hw4.symm))
  have C0 : Hid (Below w.heap.size w w3.drew) := B3.out.drew
  rename (∀ (a : Act) (w : World),Code.wp _ _ _ a w → _) => hcA
  have HCA := Lib.hid (fun (_ : Unit) => hcA)
  clear hcA
  refine wp_region_held_drew (S := (fun W => W.cell? ⟨xb,0,none⟩ = some (.slice (some ⟨b0,off,none⟩) N cap) ∧ W.cell? ⟨b0,off + kc * 2,none⟩ = some (.float .f64 pc) ∧ W.cell? ⟨b0,off + kc * 2 + 1,none⟩ = some (.float .f64 pc') ∧ W.cell? ⟨b0,off + kd * 2,none⟩ = some (.float .f64 pd) ∧ W.cell? ⟨b0,off + kd * 2 + 1,none⟩ = some (.float .f64 pd') ∧ W.cell? ⟨b0,off + kb * 2,none⟩ = some (.float .f64 pb) ∧ W.cell? ⟨b0,off + kb * 2 + 1,none⟩ = some (.float .f64 pb') ∧ W.cell? ⟨b0,off + ka * 2,none⟩ = some (.float .f64 pa) ∧ W.cell? ⟨b0,off + ka * 2 + 1,none⟩ = some (.float .f64 pa'))) (by kernel_rfl) (HN.out _ C0.out) (fun hHeld => ?_)
  refine wpAnyH_take (i := 0) (oi := ⟨some 58,_,_,_,_,none⟩) (v := ?_) rfl (by kernel_rfl) (by kernel_rfl) (by kernel_rfl) (fun _ _ _ h => h) (Or.inl ⟨by rfl,?_⟩) (by assumption) ?_
  rotate_left
  ·intro W hSw; (try dsimp only at hSw); go_simp; try with_reducible rfl
  try simp only [Act.put,List.setIfInBounds_toArray,List.set_cons_zero,List.set_cons_succ]
  refine wpAnyH_take (i := 1) (oi := ⟨some 59,_,_,_,_,none⟩) (v := .bool false) rfl (by kernel_rfl) (by kernel_rfl) (by kernel_rfl) (fun _ _ _ h => h) (Or.inl ⟨by rfl,?_⟩) (by assumption) ?_
  ·intro W hSw; (try dsimp only at hSw); go_simp; try with_reducible rfl
  try simp only [Act.put,List.setIfInBounds_toArray,List.set_cons_zero,List.set_cons_succ]
  refine wpAnyH_take (i := 2) (oi := ⟨some 60,_,_,_,_,none⟩) (v := .bool false) rfl (by kernel_rfl) (by kernel_rfl) (by kernel_rfl) (fun _ _ _ h => h) (Or.inl ⟨by rfl,?_⟩) (by assumption) ?_
  ·intro W hSw; (try dsimp only at hSw); go_simp; try with_reducible rfl
  try simp only [Act.put,List.setIfInBounds_toArray,List.set_cons_zero,List.set_cons_succ]
  refine wpAnyH_skips (by kernel_rfl) (by rintro (_ | d) c a w h <;> exact h) (by assumption) [3,4] 56 _ _ (by kernel_rfl) ?_
  simp only [skipAct,skipSet,Act.put,List.setIfInBounds_toArray,List.set_cons_zero,List.set_cons_succ,List.getElem?_toArray,List.getElem?_cons_zero,List.getElem?_cons_succ]
  refine wpAnyH_take (i := 5) (oi := ⟨some 63,_,_,_,_,none⟩) (v := .bool false) rfl (by kernel_rfl) (by kernel_rfl) (by kernel_rfl) (fun _ _ _ h => h) (Or.inl ⟨by rfl,?_⟩) (by assumption) ?_
  ·intro W hSw; (try dsimp only at hSw); go_simp; try with_reducible rfl
  try simp only [Act.put,List.setIfInBounds_toArray,List.set_cons_zero,List.set_cons_succ]
  refine wpAnyH_take (i := 6) (oi := ⟨some 64,_,_,_,_,none⟩) (v := .bool false) rfl (by kernel_rfl) (by kernel_rfl) (by kernel_rfl) (fun _ _ _ h => h) (Or.inl ⟨by rfl,?_⟩) (by assumption) ?_
  ·intro W hSw; (try dsimp only at hSw); go_simp; try with_reducible rfl
  try simp only [Act.put,List.setIfInBounds_toArray,List.set_cons_zero,List.set_cons_succ]
  refine wpAnyH_skips (by kernel_rfl) (by rintro (_ | d) c a w h <;> exact h) (by assumption) [7,8] 52 _ _ (by kernel_rfl) ?_
  simp only [skipAct,skipSet,Act.put,List.setIfInBounds_toArray,List.set_cons_zero,List.set_cons_succ,List.getElem?_toArray,List.getElem?_cons_zero,List.getElem?_cons_succ]
  refine wpAnyH_take (i := 9) (oi := ⟨some 67,_,_,_,_,none⟩) (v := .bool false) rfl (by kernel_rfl) (by kernel_rfl) (by kernel_rfl) (fun _ _ _ h => h) (Or.inl ⟨by rfl,?_⟩) (by assumption) ?_
  ·intro W hSw; (try dsimp only at hSw); go_simp; try with_reducible rfl
  try simp only [Act.put,List.setIfInBounds_toArray,List.set_cons_zero,List.set_cons_succ]
  refine wpAnyH_take (i := 10) (oi := ⟨some 68,_,_,_,_,none⟩) (v := .bool false) rfl (by kernel_rfl) (by kernel_rfl) (by kernel_rfl) (fun _ _ _ h => h) (Or.inl ⟨by rfl,?_⟩) (by assumption) ?_
  ·intro W hSw; (try dsimp only at hSw); go_simp; try with_reducible rfl
  try simp only [Act.put,List.setIfInBounds_toArray,List.set_cons_zero,List.set_cons_succ]
  refine wpAnyH_skips (by kernel_rfl) (by rintro (_ | d) c a w h <;> exact h) (by assumption) [11,12,13,14,15,16,17,18,19,20,21,22,23,24,25,26,27,28,29,30,31,32,33] 27 _ _ (by kernel_rfl) ?_
  simp only [skipAct,skipSet,Act.put,List.setIfInBounds_toArray,List.set_cons_zero,List.set_cons_succ,List.getElem?_toArray,List.getElem?_cons_zero,List.getElem?_cons_succ]
  refine wpAnyH_take (i := 34) (oi := ⟨some 92,_,_,_,_,none⟩) (v := .bool false) rfl (by kernel_rfl) (by kernel_rfl) (by kernel_rfl) (fun _ _ _ h => h) (Or.inl ⟨by rfl,?_⟩) (by assumption) ?_
  ·intro W hSw; (try dsimp only at hSw); go_simp; try with_reducible rfl
  try simp only [Act.put,List.setIfInBounds_toArray,List.set_cons_zero,List.set_cons_succ]
  refine wpAnyH_take (i := 35) (oi := ⟨some 93,_,_,_,_,none⟩) (v := .bool false) rfl (by kernel_rfl) (by kernel_rfl) (by kernel_rfl) (fun _ _ _ h => h) (Or.inl ⟨by rfl,?_⟩) (by assumption) ?_
  ·intro W hSw; (try dsimp only at hSw); go_simp; try with_reducible rfl
  try simp only [Act.put,List.setIfInBounds_toArray,List.set_cons_zero,List.set_cons_succ]
  refine wpAnyH_skips (by kernel_rfl) (by rintro (_ | d) c a w h <;> exact h) (by assumption) [36,37,38,39,40,41,42,43,44,45,46,47,48,49,50,51,52,53,54,55,56,57,58] 2 _ _ (by kernel_rfl) ?_
  simp only [skipAct,skipSet,Act.put,List.setIfInBounds_toArray,List.set_cons_zero,List.set_cons_succ,List.getElem?_toArray,List.getElem?_cons_zero,List.getElem?_cons_succ]
  refine wpAnyH_take (i := 59) (oi := ⟨some 117,_,_,_,_,none⟩) (v := .bool false) rfl (by kernel_rfl) (by kernel_rfl) (by kernel_rfl) (fun _ _ _ h => h) (Or.inl ⟨by rfl,?_⟩) (by assumption) ?_
  ·intro W hSw; (try dsimp only at hSw); go_simp; try with_reducible rfl
  try simp only [Act.put,List.setIfInBounds_toArray,List.set_cons_zero,List.set_cons_succ]
  refine wpAnyH_take (i := 60) (oi := ⟨some 6,_,_,_,_,none⟩) (v := .bool false) rfl (by kernel_rfl) (by kernel_rfl) (by kernel_rfl) (fun _ _ _ h => h) (Or.inl ⟨by rfl,?_⟩) (by assumption) ?_
  ·intro W hSw; (try dsimp only at hSw); go_simp; try with_reducible rfl
  try simp only [Act.put,List.setIfInBounds_toArray,List.set_cons_zero,List.set_cons_succ]
  refine wpAnyH_done (by kernel_rfl) ?_ _
  have hcA := HCA.out ()
  go_wp2
  go_ret
  exact ⟨by simp,C0.out⟩
 ·go_enter Tryz.func20,Tryz.ntmps20
  go_upto_region 8 with (first
   |(go_at_call 51; (with_reducible refine H1.out.mono ?_); rintro r w1 ⟨rfl,hw1⟩; obtain rfl := hw1.symm)
   |(go_at_call 51; (with_reducible refine H2.out.mono ?_); rintro r w1 ⟨rfl,hw1⟩; obtain rfl := hw1.symm)
   |(go_at_call 53; (with_reducible refine H3.out.mono ?_); rintro r w3 ⟨rfl,hb3⟩; have B3 := Lib.hid hb3; clear hb3)
   |(go_at_call 51; (with_reducible refine (H4.out _ B3.out).mono ?_); rintro r w4 ⟨rfl,hw4⟩; obtain rfl := hw4.symm)
   |(go_at_call 51; (with_reducible refine (H5.out _ B3.out).mono ?_); rintro r w4 ⟨rfl,hw4⟩; obtain rfl := hw4.symm))
  have C0 : Hid (Below w.heap.size w w3.drew) := B3.out.drew
  rename (∀ (a : Act) (w : World),Code.wp _ _ _ a w → _) => hcA
  have HCA := Lib.hid (fun (_ : Unit) => hcA)
  clear hcA
  refine wp_region_held_drew (S := (fun W => W.cell? ⟨xb,0,none⟩ = some (.slice (some ⟨b0,off,none⟩) N cap) ∧ W.cell? ⟨b0,off + kc * 2,none⟩ = some (.float .f64 pc) ∧ W.cell? ⟨b0,off + kc * 2 + 1,none⟩ = some (.float .f64 pc') ∧ W.cell? ⟨b0,off + kd * 2,none⟩ = some (.float .f64 pd) ∧ W.cell? ⟨b0,off + kd * 2 + 1,none⟩ = some (.float .f64 pd') ∧ W.cell? ⟨b0,off + kb * 2,none⟩ = some (.float .f64 pb) ∧ W.cell? ⟨b0,off + kb * 2 + 1,none⟩ = some (.float .f64 pb') ∧ W.cell? ⟨b0,off + ka * 2,none⟩ = some (.float .f64 pa) ∧ W.cell? ⟨b0,off + ka * 2 + 1,none⟩ = some (.float .f64 pa'))) (by kernel_rfl) (HN.out _ C0.out) (fun hHeld => ?_)
  refine wpAnyH_take (i := 0) (oi := ⟨some 58,_,_,_,_,none⟩) (v := ?_) rfl (by kernel_rfl) (by kernel_rfl) (by kernel_rfl) (fun _ _ _ h => h) (Or.inl ⟨by rfl,?_⟩) (by assumption) ?_
  rotate_left
  ·intro W hSw; (try dsimp only at hSw); go_simp; try with_reducible rfl
  try simp only [Act.put,List.setIfInBounds_toArray,List.set_cons_zero,List.set_cons_succ]
  refine wpAnyH_take (i := 1) (oi := ⟨some 59,_,_,_,_,none⟩) (v := .bool true) rfl (by kernel_rfl) (by kernel_rfl) (by kernel_rfl) (fun _ _ _ h => h) (Or.inl ⟨by rfl,?_⟩) (by assumption) ?_
  ·intro W hSw; (try dsimp only at hSw); go_simp; try with_reducible rfl
  try simp only [Act.put,List.setIfInBounds_toArray,List.set_cons_zero,List.set_cons_succ]
  refine wpAnyH_take (i := 2) (oi := ⟨some 60,_,_,_,_,none⟩) (v := .bool true) rfl (by kernel_rfl) (by kernel_rfl) (by kernel_rfl) (fun _ _ _ h => h) (Or.inl ⟨by rfl,?_⟩) (by assumption) ?_
  ·intro W hSw; (try dsimp only at hSw); go_simp; try with_reducible rfl
  try simp only [Act.put,List.setIfInBounds_toArray,List.set_cons_zero,List.set_cons_succ]
  refine wpAnyH_take (i := 3) (oi := ⟨some 61,_,_,_,_,some (2,true)⟩) (v := ?_) rfl (by kernel_rfl) (by kernel_rfl) (by kernel_rfl) (fun _ _ _ h => h) (Or.inl ⟨by rfl,?_⟩) (by assumption) ?_
  rotate_left
  ·intro W hSw; (try dsimp only at hSw); go_simp; try with_reducible rfl
  try simp only [Act.put,List.setIfInBounds_toArray,List.set_cons_zero,List.set_cons_succ]
  refine wpAnyH_take (i := 4) (oi := ⟨some 62,_,_,_,_,some (2,true)⟩) (v := .bool false) rfl (by kernel_rfl) (by kernel_rfl) (by kernel_rfl) (fun _ _ _ h => h) (Or.inl ⟨by rfl,?_⟩) (by assumption) ?_
  ·intro W hSw; (try dsimp only at hSw); go_simp; try with_reducible rfl
  try simp only [Act.put,List.setIfInBounds_toArray,List.set_cons_zero,List.set_cons_succ]
  refine wpAnyH_take (i := 5) (oi := ⟨some 63,_,_,_,_,none⟩) (v := .bool false) rfl (by kernel_rfl) (by kernel_rfl) (by kernel_rfl) (fun _ _ _ h => h) (Or.inl ⟨by rfl,?_⟩) (by assumption) ?_
  ·intro W hSw; (try dsimp only at hSw); go_simp; try with_reducible rfl
  try simp only [Act.put,List.setIfInBounds_toArray,List.set_cons_zero,List.set_cons_succ]
  refine wpAnyH_take (i := 6) (oi := ⟨some 64,_,_,_,_,none⟩) (v := .bool false) rfl (by kernel_rfl) (by kernel_rfl) (by kernel_rfl) (fun _ _ _ h => h) (Or.inl ⟨by rfl,?_⟩) (by assumption) ?_
  ·intro W hSw; (try dsimp only at hSw); go_simp; try with_reducible rfl
  try simp only [Act.put,List.setIfInBounds_toArray,List.set_cons_zero,List.set_cons_succ]
  refine wpAnyH_skips (by kernel_rfl) (by rintro (_ | d) c a w h <;> exact h) (by assumption) [7,8] 52 _ _ (by kernel_rfl) ?_
  simp only [skipAct,skipSet,Act.put,List.setIfInBounds_toArray,List.set_cons_zero,List.set_cons_succ,List.getElem?_toArray,List.getElem?_cons_zero,List.getElem?_cons_succ]
  refine wpAnyH_take (i := 9) (oi := ⟨some 67,_,_,_,_,none⟩) (v := .bool false) rfl (by kernel_rfl) (by kernel_rfl) (by kernel_rfl) (fun _ _ _ h => h) (Or.inl ⟨by rfl,?_⟩) (by assumption) ?_
  ·intro W hSw; (try dsimp only at hSw); go_simp; try with_reducible rfl
  try simp only [Act.put,List.setIfInBounds_toArray,List.set_cons_zero,List.set_cons_succ]
  refine wpAnyH_take (i := 10) (oi := ⟨some 68,_,_,_,_,none⟩) (v := .bool false) rfl (by kernel_rfl) (by kernel_rfl) (by kernel_rfl) (fun _ _ _ h => h) (Or.inl ⟨by rfl,?_⟩) (by assumption) ?_
  ·intro W hSw; (try dsimp only at hSw); go_simp; try with_reducible rfl
  try simp only [Act.put,List.setIfInBounds_toArray,List.set_cons_zero,List.set_cons_succ]
  refine wpAnyH_skips (by kernel_rfl) (by rintro (_ | d) c a w h <;> exact h) (by assumption) [11,12,13,14,15,16,17,18,19,20,21,22,23,24,25,26,27,28,29,30,31,32,33] 27 _ _ (by kernel_rfl) ?_
  simp only [skipAct,skipSet,Act.put,List.setIfInBounds_toArray,List.set_cons_zero,List.set_cons_succ,List.getElem?_toArray,List.getElem?_cons_zero,List.getElem?_cons_succ]
  refine wpAnyH_take (i := 34) (oi := ⟨some 92,_,_,_,_,none⟩) (v := .bool false) rfl (by kernel_rfl) (by kernel_rfl) (by kernel_rfl) (fun _ _ _ h => h) (Or.inl ⟨by rfl,?_⟩) (by assumption) ?_
  ·intro W hSw; (try dsimp only at hSw); go_simp; try with_reducible rfl
  try simp only [Act.put,List.setIfInBounds_toArray,List.set_cons_zero,List.set_cons_succ]
  refine wpAnyH_take (i := 35) (oi := ⟨some 93,_,_,_,_,none⟩) (v := .bool false) rfl (by kernel_rfl) (by kernel_rfl) (by kernel_rfl) (fun _ _ _ h => h) (Or.inl ⟨by rfl,?_⟩) (by assumption) ?_
  ·intro W hSw; (try dsimp only at hSw); go_simp; try with_reducible rfl
  try simp only [Act.put,List.setIfInBounds_toArray,List.set_cons_zero,List.set_cons_succ]
  refine wpAnyH_skips (by kernel_rfl) (by rintro (_ | d) c a w h <;> exact h) (by assumption) [36,37,38,39,40,41,42,43,44,45,46,47,48,49,50,51,52,53,54,55,56,57,58] 2 _ _ (by kernel_rfl) ?_
  simp only [skipAct,skipSet,Act.put,List.setIfInBounds_toArray,List.set_cons_zero,List.set_cons_succ,List.getElem?_toArray,List.getElem?_cons_zero,List.getElem?_cons_succ]
  refine wpAnyH_take (i := 59) (oi := ⟨some 117,_,_,_,_,none⟩) (v := .bool false) rfl (by kernel_rfl) (by kernel_rfl) (by kernel_rfl) (fun _ _ _ h => h) (Or.inl ⟨by rfl,?_⟩) (by assumption) ?_
  ·intro W hSw; (try dsimp only at hSw); go_simp; try with_reducible rfl
  try simp only [Act.put,List.setIfInBounds_toArray,List.set_cons_zero,List.set_cons_succ]
  refine wpAnyH_take (i := 60) (oi := ⟨some 6,_,_,_,_,none⟩) (v := .bool false) rfl (by kernel_rfl) (by kernel_rfl) (by kernel_rfl) (fun _ _ _ h => h) (Or.inl ⟨by rfl,?_⟩) (by assumption) ?_
  ·intro W hSw; (try dsimp only at hSw); go_simp; try with_reducible rfl
  try simp only [Act.put,List.setIfInBounds_toArray,List.set_cons_zero,List.set_cons_succ]
  refine wpAnyH_done (by kernel_rfl) ?_ _
  have hcA := HCA.out ()
  go_wp2
  go_ret
  exact ⟨by simp,C0.out⟩
 ·go_enter Tryz.func20,Tryz.ntmps20
  go_upto_region 8 with (first
   |(go_at_call 51; (with_reducible refine H1.out.mono ?_); rintro r w1 ⟨rfl,hw1⟩; obtain rfl := hw1.symm)
   |(go_at_call 51; (with_reducible refine H2.out.mono ?_); rintro r w1 ⟨rfl,hw1⟩; obtain rfl := hw1.symm)
   |(go_at_call 53; (with_reducible refine H3.out.mono ?_); rintro r w3 ⟨rfl,hb3⟩; have B3 := Lib.hid hb3; clear hb3)
   |(go_at_call 51; (with_reducible refine (H4.out _ B3.out).mono ?_); rintro r w4 ⟨rfl,hw4⟩; obtain rfl := hw4.symm)
   |(go_at_call 51; (with_reducible refine (H5.out _ B3.out).mono ?_); rintro r w4 ⟨rfl,hw4⟩; obtain rfl := hw4.symm))
  have C0 : Hid (Below w.heap.size w w3.drew) := B3.out.drew
  rename (∀ (a : Act) (w : World),Code.wp _ _ _ a w → _) => hcA
  have HCA := Lib.hid (fun (_ : Unit) => hcA)
  clear hcA
  refine wp_region_held_drew (S := (fun W => W.cell? ⟨xb,0,none⟩ = some (.slice (some ⟨b0,off,none⟩) N cap) ∧ W.cell? ⟨b0,off + kc * 2,none⟩ = some (.float .f64 pc) ∧ W.cell? ⟨b0,off + kc * 2 + 1,none⟩ = some (.float .f64 pc') ∧ W.cell? ⟨b0,off + kd * 2,none⟩ = some (.float .f64 pd) ∧ W.cell? ⟨b0,off + kd * 2 + 1,none⟩ = some (.float .f64 pd') ∧ W.cell? ⟨b0,off + kb * 2,none⟩ = some (.float .f64 pb) ∧ W.cell? ⟨b0,off + kb * 2 + 1,none⟩ = some (.float .f64 pb') ∧ W.cell? ⟨b0,off + ka * 2,none⟩ = some (.float .f64 pa) ∧ W.cell? ⟨b0,off + ka * 2 + 1,none⟩ = some (.float .f64 pa'))) (by kernel_rfl) (HN.out _ C0.out) (fun hHeld => ?_)
  refine wpAnyH_take (i := 0) (oi := ⟨some 58,_,_,_,_,none⟩) (v := ?_) rfl (by kernel_rfl) (by kernel_rfl) (by kernel_rfl) (fun _ _ _ h => h) (Or.inl ⟨by rfl,?_⟩) (by assumption) ?_
  rotate_left
  ·intro W hSw; (try dsimp only at hSw); go_simp; try with_reducible rfl
  try simp only [Act.put,List.setIfInBounds_toArray,List.set_cons_zero,List.set_cons_succ]
  refine wpAnyH_take (i := 1) (oi := ⟨some 59,_,_,_,_,none⟩) (v := .bool true) rfl (by kernel_rfl) (by kernel_rfl) (by kernel_rfl) (fun _ _ _ h => h) (Or.inl ⟨by rfl,?_⟩) (by assumption) ?_
  ·intro W hSw; (try dsimp only at hSw); go_simp; try with_reducible rfl
  try simp only [Act.put,List.setIfInBounds_toArray,List.set_cons_zero,List.set_cons_succ]
  refine wpAnyH_take (i := 2) (oi := ⟨some 60,_,_,_,_,none⟩) (v := .bool true) rfl (by kernel_rfl) (by kernel_rfl) (by kernel_rfl) (fun _ _ _ h => h) (Or.inl ⟨by rfl,?_⟩) (by assumption) ?_
  ·intro W hSw; (try dsimp only at hSw); go_simp; try with_reducible rfl
  try simp only [Act.put,List.setIfInBounds_toArray,List.set_cons_zero,List.set_cons_succ]
  refine wpAnyH_take (i := 3) (oi := ⟨some 61,_,_,_,_,some (2,true)⟩) (v := ?_) rfl (by kernel_rfl) (by kernel_rfl) (by kernel_rfl) (fun _ _ _ h => h) (Or.inl ⟨by rfl,?_⟩) (by assumption) ?_
  rotate_left
  ·intro W hSw; (try dsimp only at hSw); go_simp; try with_reducible rfl
  try simp only [Act.put,List.setIfInBounds_toArray,List.set_cons_zero,List.set_cons_succ]
  refine wpAnyH_take (i := 4) (oi := ⟨some 62,_,_,_,_,some (2,true)⟩) (v := .bool true) rfl (by kernel_rfl) (by kernel_rfl) (by kernel_rfl) (fun _ _ _ h => h) (Or.inl ⟨by rfl,?_⟩) (by assumption) ?_
  ·intro W hSw; (try dsimp only at hSw); go_simp; try with_reducible rfl
  try simp only [Act.put,List.setIfInBounds_toArray,List.set_cons_zero,List.set_cons_succ]
  refine wpAnyH_take (i := 5) (oi := ⟨some 63,_,_,_,_,none⟩) (v := .bool true) rfl (by kernel_rfl) (by kernel_rfl) (by kernel_rfl) (fun _ _ _ h => h) (Or.inl ⟨by rfl,?_⟩) (by assumption) ?_
  ·intro W hSw; (try dsimp only at hSw); go_simp; try with_reducible rfl
  try simp only [Act.put,List.setIfInBounds_toArray,List.set_cons_zero,List.set_cons_succ]
  refine wpAnyH_take (i := 6) (oi := ⟨some 64,_,_,_,_,none⟩) (v := .bool true) rfl (by kernel_rfl) (by kernel_rfl) (by kernel_rfl) (fun _ _ _ h => h) (Or.inl ⟨by rfl,?_⟩) (by assumption) ?_
  ·intro W hSw; (try dsimp only at hSw); go_simp; try with_reducible rfl
  try simp only [Act.put,List.setIfInBounds_toArray,List.set_cons_zero,List.set_cons_succ]
  refine wpAnyH_take (i := 7) (oi := ⟨some 65,_,_,_,_,some (6,true)⟩) (v := ?_) rfl (by kernel_rfl) (by kernel_rfl) (by kernel_rfl) (fun _ _ _ h => h) (Or.inl ⟨by rfl,?_⟩) (by assumption) ?_
  rotate_left
  ·intro W hSw; (try dsimp only at hSw); go_simp; try with_reducible rfl
  try simp only [Act.put,List.setIfInBounds_toArray,List.set_cons_zero,List.set_cons_succ]
  refine wpAnyH_take (i := 8) (oi := ⟨some 66,_,_,_,_,some (6,true)⟩) (v := .bool false) rfl (by kernel_rfl) (by kernel_rfl) (by kernel_rfl) (fun _ _ _ h => h) (Or.inl ⟨by rfl,?_⟩) (by assumption) ?_
  ·intro W hSw; (try dsimp only at hSw); go_simp; try with_reducible rfl
  try simp only [Act.put,List.setIfInBounds_toArray,List.set_cons_zero,List.set_cons_succ]
  refine wpAnyH_take (i := 9) (oi := ⟨some 67,_,_,_,_,none⟩) (v := .bool false) rfl (by kernel_rfl) (by kernel_rfl) (by kernel_rfl) (fun _ _ _ h => h) (Or.inl ⟨by rfl,?_⟩) (by assumption) ?_
  ·intro W hSw; (try dsimp only at hSw); go_simp; try with_reducible rfl
  try simp only [Act.put,List.setIfInBounds_toArray,List.set_cons_zero,List.set_cons_succ]
  refine wpAnyH_take (i := 10) (oi := ⟨some 68,_,_,_,_,none⟩) (v := .bool false) rfl (by kernel_rfl) (by kernel_rfl) (by kernel_rfl) (fun _ _ _ h => h) (Or.inl ⟨by rfl,?_⟩) (by assumption) ?_
  ·intro W hSw; (try dsimp only at hSw); go_simp; try with_reducible rfl
  try simp only [Act.put,List.setIfInBounds_toArray,List.set_cons_zero,List.set_cons_succ]
  refine wpAnyH_skips (by kernel_rfl) (by rintro (_ | d) c a w h <;> exact h) (by assumption) [11,12,13,14,15,16,17,18,19,20,21,22,23,24,25,26,27,28,29,30,31,32,33] 27 _ _ (by kernel_rfl) ?_
  simp only [skipAct,skipSet,Act.put,List.setIfInBounds_toArray,List.set_cons_zero,List.set_cons_succ,List.getElem?_toArray,List.getElem?_cons_zero,List.getElem?_cons_succ]
  refine wpAnyH_take (i := 34) (oi := ⟨some 92,_,_,_,_,none⟩) (v := .bool false) rfl (by kernel_rfl) (by kernel_rfl) (by kernel_rfl) (fun _ _ _ h => h) (Or.inl ⟨by rfl,?_⟩) (by assumption) ?_
  ·intro W hSw; (try dsimp only at hSw); go_simp; try with_reducible rfl
  try simp only [Act.put,List.setIfInBounds_toArray,List.set_cons_zero,List.set_cons_succ]
  refine wpAnyH_take (i := 35) (oi := ⟨some 93,_,_,_,_,none⟩) (v := .bool false) rfl (by kernel_rfl) (by kernel_rfl) (by kernel_rfl) (fun _ _ _ h => h) (Or.inl ⟨by rfl,?_⟩) (by assumption) ?_
  ·intro W hSw; (try dsimp only at hSw); go_simp; try with_reducible rfl
  try simp only [Act.put,List.setIfInBounds_toArray,List.set_cons_zero,List.set_cons_succ]
  refine wpAnyH_skips (by kernel_rfl) (by rintro (_ | d) c a w h <;> exact h) (by assumption) [36,37,38,39,40,41,42,43,44,45,46,47,48,49,50,51,52,53,54,55,56,57,58] 2 _ _ (by kernel_rfl) ?_
  simp only [skipAct,skipSet,Act.put,List.setIfInBounds_toArray,List.set_cons_zero,List.set_cons_succ,List.getElem?_toArray,List.getElem?_cons_zero,List.getElem?_cons_succ]
  refine wpAnyH_take (i := 59) (oi := ⟨some 117,_,_,_,_,none⟩) (v := .bool false) rfl (by kernel_rfl) (by kernel_rfl) (by kernel_rfl) (fun _ _ _ h => h) (Or.inl ⟨by rfl,?_⟩) (by assumption) ?_
  ·intro W hSw; (try dsimp only at hSw); go_simp; try with_reducible rfl
  try simp only [Act.put,List.setIfInBounds_toArray,List.set_cons_zero,List.set_cons_succ]
  refine wpAnyH_take (i := 60) (oi := ⟨some 6,_,_,_,_,none⟩) (v := .bool false) rfl (by kernel_rfl) (by kernel_rfl) (by kernel_rfl) (fun _ _ _ h => h) (Or.inl ⟨by rfl,?_⟩) (by assumption) ?_
  ·intro W hSw; (try dsimp only at hSw); go_simp; try with_reducible rfl
  try simp only [Act.put,List.setIfInBounds_toArray,List.set_cons_zero,List.set_cons_succ]
  refine wpAnyH_done (by kernel_rfl) ?_ _
  have hcA := HCA.out ()
  go_wp2
  go_ret
  exact ⟨by simp,C0.out⟩
 ·have d1 : decide (0 < s1) = false := decide_eq_false g1
  rw [d1]
  go_enter Tryz.func20,Tryz.ntmps20
  go_upto_region 8 with (first
   |(go_at_call 51; (with_reducible refine H1.out.mono ?_); rintro r w1 ⟨rfl,hw1⟩; obtain rfl := hw1.symm)
   |(go_at_call 51; (with_reducible refine H2.out.mono ?_); rintro r w1 ⟨rfl,hw1⟩; obtain rfl := hw1.symm)
   |(go_at_call 53; (with_reducible refine H3.out.mono ?_); rintro r w3 ⟨rfl,hb3⟩; have B3 := Lib.hid hb3; clear hb3)
   |(go_at_call 51; (with_reducible refine (H4.out _ B3.out).mono ?_); rintro r w4 ⟨rfl,hw4⟩; obtain rfl := hw4.symm)
   |(go_at_call 51; (with_reducible refine (H5.out _ B3.out).mono ?_); rintro r w4 ⟨rfl,hw4⟩; obtain rfl := hw4.symm))
  have C0 : Hid (Below w.heap.size w w3.drew) := B3.out.drew
  rename (∀ (a : Act) (w : World),Code.wp _ _ _ a w → _) => hcA
  have HCA := Lib.hid (fun (_ : Unit) => hcA)
  clear hcA
  refine wp_region_held_drew (S := (fun W => W.cell? ⟨xb,0,none⟩ = some (.slice (some ⟨b0,off,none⟩) N cap) ∧ W.cell? ⟨b0,off + kc * 2,none⟩ = some (.float .f64 pc) ∧ W.cell? ⟨b0,off + kc * 2 + 1,none⟩ = some (.float .f64 pc') ∧ W.cell? ⟨b0,off + kd * 2,none⟩ = some (.float .f64 pd) ∧ W.cell? ⟨b0,off + kd * 2 + 1,none⟩ = some (.float .f64 pd') ∧ W.cell? ⟨b0,off + kb * 2,none⟩ = some (.float .f64 pb) ∧ W.cell? ⟨b0,off + kb * 2 + 1,none⟩ = some (.float .f64 pb') ∧ W.cell? ⟨b0,off + ka * 2,none⟩ = some (.float .f64 pa) ∧ W.cell? ⟨b0,off + ka * 2 + 1,none⟩ = some (.float .f64 pa'))) (by kernel_rfl) (HN.out _ C0.out) (fun hHeld => ?_)
  refine wpAnyH_take (i := 0) (oi := ⟨some 58,_,_,_,_,none⟩) (v := ?_) rfl (by kernel_rfl) (by kernel_rfl) (by kernel_rfl) (fun _ _ _ h => h) (Or.inl ⟨by rfl,?_⟩) (by assumption) ?_
  rotate_left
  ·intro W hSw; (try dsimp only at hSw); go_simp; try with_reducible rfl
  try simp only [Act.put,List.setIfInBounds_toArray,List.set_cons_zero,List.set_cons_succ]
  refine wpAnyH_take (i := 1) (oi := ⟨some 59,_,_,_,_,none⟩) (v := .bool true) rfl (by kernel_rfl) (by kernel_rfl) (by kernel_rfl) (fun _ _ _ h => h) (Or.inl ⟨by rfl,?_⟩) (by assumption) ?_
  ·intro W hSw; (try dsimp only at hSw); go_simp; try with_reducible rfl
  try simp only [Act.put,List.setIfInBounds_toArray,List.set_cons_zero,List.set_cons_succ]
  refine wpAnyH_take (i := 2) (oi := ⟨some 60,_,_,_,_,none⟩) (v := .bool true) rfl (by kernel_rfl) (by kernel_rfl) (by kernel_rfl) (fun _ _ _ h => h) (Or.inl ⟨by rfl,?_⟩) (by assumption) ?_
  ·intro W hSw; (try dsimp only at hSw); go_simp; try with_reducible rfl
  try simp only [Act.put,List.setIfInBounds_toArray,List.set_cons_zero,List.set_cons_succ]
  refine wpAnyH_take (i := 3) (oi := ⟨some 61,_,_,_,_,some (2,true)⟩) (v := ?_) rfl (by kernel_rfl) (by kernel_rfl) (by kernel_rfl) (fun _ _ _ h => h) (Or.inl ⟨by rfl,?_⟩) (by assumption) ?_
  rotate_left
  ·intro W hSw; (try dsimp only at hSw); go_simp; try with_reducible rfl
  try simp only [Act.put,List.setIfInBounds_toArray,List.set_cons_zero,List.set_cons_succ]
  refine wpAnyH_take (i := 4) (oi := ⟨some 62,_,_,_,_,some (2,true)⟩) (v := .bool true) rfl (by kernel_rfl) (by kernel_rfl) (by kernel_rfl) (fun _ _ _ h => h) (Or.inl ⟨by rfl,?_⟩) (by assumption) ?_
  ·intro W hSw; (try dsimp only at hSw); go_simp; try with_reducible rfl
  try simp only [Act.put,List.setIfInBounds_toArray,List.set_cons_zero,List.set_cons_succ]
  refine wpAnyH_take (i := 5) (oi := ⟨some 63,_,_,_,_,none⟩) (v := .bool true) rfl (by kernel_rfl) (by kernel_rfl) (by kernel_rfl) (fun _ _ _ h => h) (Or.inl ⟨by rfl,?_⟩) (by assumption) ?_
  ·intro W hSw; (try dsimp only at hSw); go_simp; try with_reducible rfl
  try simp only [Act.put,List.setIfInBounds_toArray,List.set_cons_zero,List.set_cons_succ]
  refine wpAnyH_take (i := 6) (oi := ⟨some 64,_,_,_,_,none⟩) (v := .bool true) rfl (by kernel_rfl) (by kernel_rfl) (by kernel_rfl) (fun _ _ _ h => h) (Or.inl ⟨by rfl,?_⟩) (by assumption) ?_
  ·intro W hSw; (try dsimp only at hSw); go_simp; try with_reducible rfl
  try simp only [Act.put,List.setIfInBounds_toArray,List.set_cons_zero,List.set_cons_succ]
  refine wpAnyH_take (i := 7) (oi := ⟨some 65,_,_,_,_,some (6,true)⟩) (v := ?_) rfl (by kernel_rfl) (by kernel_rfl) (by kernel_rfl) (fun _ _ _ h => h) (Or.inl ⟨by rfl,?_⟩) (by assumption) ?_
  rotate_left
  ·intro W hSw; (try dsimp only at hSw); go_simp; try with_reducible rfl
  try simp only [Act.put,List.setIfInBounds_toArray,List.set_cons_zero,List.set_cons_succ]
  refine wpAnyH_take (i := 8) (oi := ⟨some 66,_,_,_,_,some (6,true)⟩) (v := .bool true) rfl (by kernel_rfl) (by kernel_rfl) (by kernel_rfl) (fun _ _ _ h => h) (Or.inl ⟨by rfl,?_⟩) (by assumption) ?_
  ·intro W hSw; (try dsimp only at hSw); go_simp; try with_reducible rfl
  try simp only [Act.put,List.setIfInBounds_toArray,List.set_cons_zero,List.set_cons_succ]
  refine wpAnyH_take (i := 9) (oi := ⟨some 67,_,_,_,_,none⟩) (v := .bool true) rfl (by kernel_rfl) (by kernel_rfl) (by kernel_rfl) (fun _ _ _ h => h) (Or.inl ⟨by rfl,?_⟩) (by assumption) ?_
  ·intro W hSw; (try dsimp only at hSw); go_simp; try with_reducible rfl
  try simp only [Act.put,List.setIfInBounds_toArray,List.set_cons_zero,List.set_cons_succ]
  refine wpAnyH_take (i := 10) (oi := ⟨some 68,_,_,_,_,none⟩) (v := .bool true) rfl (by kernel_rfl) (by kernel_rfl) (by kernel_rfl) (fun _ _ _ h => h) (Or.inl ⟨by rfl,?_⟩) (by assumption) ?_
  ·intro W hSw; (try dsimp only at hSw); go_simp; try with_reducible rfl
  try simp only [Act.put,List.setIfInBounds_toArray,List.set_cons_zero,List.set_cons_succ]
  refine wpAnyH_take (i := 11) (oi := ⟨some 69,_,_,_,_,some (10,true)⟩) (v := ?_) rfl (by kernel_rfl) (by kernel_rfl) (by kernel_rfl) (fun _ _ _ h => h) (Or.inl ⟨by rfl,?_⟩) (by assumption) ?_
  rotate_left
  ·intro W hSw; (try dsimp only at hSw); go_simp; try with_reducible rfl
  try simp only [Act.put,List.setIfInBounds_toArray,List.set_cons_zero,List.set_cons_succ]
  refine wpAnyH_take (i := 12) (oi := ⟨some 70,_,_,_,_,some (10,true)⟩) (v := ?_) rfl (by kernel_rfl) (by kernel_rfl) (by kernel_rfl) (fun _ _ _ h => h) (Or.inl ⟨by rfl,?_⟩) (by assumption) ?_
  rotate_left
  ·intro W hSw; (try dsimp only at hSw); go_simp; try with_reducible rfl
  try simp only [Act.put,List.setIfInBounds_toArray,List.set_cons_zero,List.set_cons_succ]
  refine wpAnyH_take (i := 13) (oi := ⟨some 71,_,_,_,_,some (10,true)⟩) (v := ?_) rfl (by kernel_rfl) (by kernel_rfl) (by kernel_rfl) (fun _ _ _ h => h) (Or.inl ⟨by rfl,?_⟩) (by assumption) ?_
  rotate_left
  ·intro W hSw; (try dsimp only at hSw); go_simp; try with_reducible rfl
  try simp only [Act.put,List.setIfInBounds_toArray,List.set_cons_zero,List.set_cons_succ]
  refine wpAnyH_take (i := 14) (oi := ⟨some 72,_,_,_,_,some (10,true)⟩) (v := ?_) rfl (by kernel_rfl) (by kernel_rfl) (by kernel_rfl) (fun _ _ _ h => h) (Or.inl ⟨by rfl,?_⟩) (by assumption) ?_
  rotate_left
  ·intro W hSw; (try dsimp only at hSw); go_simp; try with_reducible rfl
  try simp only [Act.put,List.setIfInBounds_toArray,List.set_cons_zero,List.set_cons_succ]
  refine wpAnyH_take (i := 15) (oi := ⟨some 73,_,_,_,_,some (10,true)⟩) (v := ?_) rfl (by kernel_rfl) (by kernel_rfl) (by kernel_rfl) (fun _ _ _ h => h) (Or.inl ⟨by rfl,?_⟩) (by assumption) ?_
  rotate_left
  ·intro W hSw; (try dsimp only at hSw); go_simp; try with_reducible rfl
  try simp only [Act.put,List.setIfInBounds_toArray,List.set_cons_zero,List.set_cons_succ]
  refine wpAnyH_take (i := 16) (oi := ⟨some 74,_,_,_,_,some (10,true)⟩) (v := ?_) rfl (by kernel_rfl) (by kernel_rfl) (by kernel_rfl) (fun _ _ _ h => h) (Or.inl ⟨by rfl,?_⟩) (by assumption) ?_
  rotate_left
  ·intro W hSw; (try dsimp only at hSw); go_simp; try with_reducible rfl
  try simp only [Act.put,List.setIfInBounds_toArray,List.set_cons_zero,List.set_cons_succ]
  refine wpAnyH_take (i := 17) (oi := ⟨some 75,_,_,_,_,some (10,true)⟩) (v := ?_) rfl (by kernel_rfl) (by kernel_rfl) (by kernel_rfl) (fun _ _ _ h => h) (Or.inl ⟨by rfl,?_⟩) (by assumption) ?_
  rotate_left
  ·intro W hSw; (try dsimp only at hSw); go_simp; try with_reducible rfl
  try simp only [Act.put,List.setIfInBounds_toArray,List.set_cons_zero,List.set_cons_succ]
  refine wpAnyH_take (i := 18) (oi := ⟨some 76,_,_,_,_,some (10,true)⟩) (v := ?_) rfl (by kernel_rfl) (by kernel_rfl) (by kernel_rfl) (fun _ _ _ h => h) (Or.inl ⟨by rfl,?_⟩) (by assumption) ?_
  rotate_left
  ·intro W hSw; (try dsimp only at hSw); go_simp; try with_reducible rfl
  try simp only [Act.put,List.setIfInBounds_toArray,List.set_cons_zero,List.set_cons_succ]
  refine wpAnyH_take (i := 19) (oi := ⟨some 77,_,_,_,_,some (10,true)⟩) (v := ?_) rfl (by kernel_rfl) (by kernel_rfl) (by kernel_rfl) (fun _ _ _ h => h) (Or.inl ⟨by rfl,?_⟩) (by assumption) ?_
  rotate_left
  ·intro W hSw; (try dsimp only at hSw); go_simp; try with_reducible rfl
  try simp only [Act.put,List.setIfInBounds_toArray,List.set_cons_zero,List.set_cons_succ]
  refine wpAnyH_take (i := 20) (oi := ⟨some 78,_,_,_,_,some (10,true)⟩) (v := ?_) rfl (by kernel_rfl) (by kernel_rfl) (by kernel_rfl) (fun _ _ _ h => h) (Or.inl ⟨by rfl,?_⟩) (by assumption) ?_
  rotate_left
  ·intro W hSw; (try dsimp only at hSw); go_simp; try with_reducible rfl
  try simp only [Act.put,List.setIfInBounds_toArray,List.set_cons_zero,List.set_cons_succ]
  refine wpAnyH_take (i := 21) (oi := ⟨some 79,_,_,_,_,some (10,true)⟩) (v := ?_) rfl (by kernel_rfl) (by kernel_rfl) (by kernel_rfl) (fun _ _ _ h => h) (Or.inl ⟨by rfl,?_⟩) (by assumption) ?_
  rotate_left
  ·intro W hSw; (try dsimp only at hSw); go_simp; try with_reducible rfl
  try simp only [Act.put,List.setIfInBounds_toArray,List.set_cons_zero,List.set_cons_succ]
  refine wpAnyH_take (i := 22) (oi := ⟨some 80,_,_,_,_,some (10,true)⟩) (v := ?_) rfl (by kernel_rfl) (by kernel_rfl) (by kernel_rfl) (fun _ _ _ h => h) (Or.inl ⟨by rfl,?_⟩) (by assumption) ?_
  rotate_left
  ·intro W hSw; (try dsimp only at hSw); go_simp; try with_reducible rfl
  try simp only [Act.put,List.setIfInBounds_toArray,List.set_cons_zero,List.set_cons_succ]
  refine wpAnyH_take (i := 23) (oi := ⟨some 81,_,_,_,_,some (10,true)⟩) (v := ?_) rfl (by kernel_rfl) (by kernel_rfl) (by kernel_rfl) (fun _ _ _ h => h) (Or.inl ⟨by rfl,?_⟩) (by assumption) ?_
  rotate_left
  ·intro W hSw; (try dsimp only at hSw); go_simp; try with_reducible rfl
  try simp only [Act.put,List.setIfInBounds_toArray,List.set_cons_zero,List.set_cons_succ]
  refine wpAnyH_take (i := 24) (oi := ⟨some 82,_,_,_,_,some (10,true)⟩) (v := ?_) rfl (by kernel_rfl) (by kernel_rfl) (by kernel_rfl) (fun _ _ _ h => h) (Or.inl ⟨by rfl,?_⟩) (by assumption) ?_
  rotate_left
  ·intro W hSw; (try dsimp only at hSw); go_simp; try with_reducible rfl
  try simp only [Act.put,List.setIfInBounds_toArray,List.set_cons_zero,List.set_cons_succ]
  refine wpAnyH_take (i := 25) (oi := ⟨some 83,_,_,_,_,some (10,true)⟩) (v := ?_) rfl (by kernel_rfl) (by kernel_rfl) (by kernel_rfl) (fun _ _ _ h => h) (Or.inl ⟨by rfl,?_⟩) (by assumption) ?_
  rotate_left
  ·intro W hSw; (try dsimp only at hSw); go_simp; try with_reducible rfl
  try simp only [Act.put,List.setIfInBounds_toArray,List.set_cons_zero,List.set_cons_succ]
  refine wpAnyH_take (i := 26) (oi := ⟨some 84,_,_,_,_,some (10,true)⟩) (v := ?_) rfl (by kernel_rfl) (by kernel_rfl) (by kernel_rfl) (fun _ _ _ h => h) (Or.inl ⟨by rfl,?_⟩) (by assumption) ?_
  rotate_left
  ·intro W hSw; (try dsimp only at hSw); go_simp; try with_reducible rfl
  try simp only [Act.put,List.setIfInBounds_toArray,List.set_cons_zero,List.set_cons_succ]
  refine wpAnyH_take (i := 27) (oi := ⟨some 85,_,_,_,_,some (10,true)⟩) (v := ?_) rfl (by kernel_rfl) (by kernel_rfl) (by kernel_rfl) (fun _ _ _ h => h) (Or.inl ⟨by rfl,?_⟩) (by assumption) ?_
  rotate_left
  ·intro W hSw; (try dsimp only at hSw); go_simp; try with_reducible rfl
  try simp only [Act.put,List.setIfInBounds_toArray,List.set_cons_zero,List.set_cons_succ]
  refine wpAnyH_take (i := 28) (oi := ⟨some 86,_,_,_,_,some (10,true)⟩) (v := ?_) rfl (by kernel_rfl) (by kernel_rfl) (by kernel_rfl) (fun _ _ _ h => h) (Or.inl ⟨by rfl,?_⟩) (by assumption) ?_
  rotate_left
  ·intro W hSw; (try dsimp only at hSw); go_simp; try with_reducible rfl
  try simp only [Act.put,List.setIfInBounds_toArray,List.set_cons_zero,List.set_cons_succ]
  refine wpAnyH_take (i := 29) (oi := ⟨some 87,_,_,_,_,some (10,true)⟩) (v := ?_) rfl (by kernel_rfl) (by kernel_rfl) (by kernel_rfl) (fun _ _ _ h => h) (Or.inl ⟨by rfl,?_⟩) (by assumption) ?_
  rotate_left
  ·intro W hSw; (try dsimp only at hSw); go_simp; try with_reducible rfl
  try simp only [Act.put,List.setIfInBounds_toArray,List.set_cons_zero,List.set_cons_succ]
  refine wpAnyH_take (i := 30) (oi := ⟨some 88,_,_,_,_,some (10,true)⟩) (v := ?_) rfl (by kernel_rfl) (by kernel_rfl) (by kernel_rfl) (fun _ _ _ h => h) (Or.inl ⟨by rfl,?_⟩) (by assumption) ?_
  rotate_left
  ·intro W hSw; (try dsimp only at hSw); go_simp; try with_reducible rfl
  try simp only [Act.put,List.setIfInBounds_toArray,List.set_cons_zero,List.set_cons_succ]
  refine wpAnyH_take (i := 31) (oi := ⟨some 89,_,_,_,_,some (10,true)⟩) (v := ?_) rfl (by kernel_rfl) (by kernel_rfl) (by kernel_rfl) (fun _ _ _ h => h) (Or.inl ⟨by rfl,?_⟩) (by assumption) ?_
  rotate_left
  ·intro W hSw; (try dsimp only at hSw); go_simp; try with_reducible rfl
  try simp only [Act.put,List.setIfInBounds_toArray,List.set_cons_zero,List.set_cons_succ]
  refine wpAnyH_ready (rs := [32]) (by kernel_rfl) (by simp) ?_
  refine AllReadyH.cons rfl (fun K hK => ?_) AllReadyH.nil
  go_simp
  (with_reducible refine (HL1.out _).mono ?_)
  rintro r w5 ⟨rfl,hb1⟩
  have C1 := Lib.hid (bseq C0.out hb1)
  refine hK.out _ _ (HN.out _ C1.out) (fun hHeld1 => ?_)
  try simp only [Act.put,List.setIfInBounds_toArray,List.set_cons_zero,List.set_cons_succ]
  refine wpAnyH_take (i := 33) (oi := ⟨some 91,_,_,_,_,some (10,true)⟩) (v := .bool false) rfl (by kernel_rfl) (by kernel_rfl) (by kernel_rfl) (fun _ _ _ h => h) (Or.inl ⟨by rfl,?_⟩) (by assumption) ?_
  ·intro W hSw; (try dsimp only at hSw); go_simp; try with_reducible rfl
  try simp only [Act.put,List.setIfInBounds_toArray,List.set_cons_zero,List.set_cons_succ]
  refine wpAnyH_take (i := 34) (oi := ⟨some 92,_,_,_,_,none⟩) (v := .bool false) rfl (by kernel_rfl) (by kernel_rfl) (by kernel_rfl) (fun _ _ _ h => h) (Or.inl ⟨by rfl,?_⟩) (by assumption) ?_
  ·intro W hSw; (try dsimp only at hSw); go_simp; try with_reducible rfl
  try simp only [Act.put,List.setIfInBounds_toArray,List.set_cons_zero,List.set_cons_succ]
  refine wpAnyH_take (i := 35) (oi := ⟨some 93,_,_,_,_,none⟩) (v := .bool false) rfl (by kernel_rfl) (by kernel_rfl) (by kernel_rfl) (fun _ _ _ h => h) (Or.inl ⟨by rfl,?_⟩) (by assumption) ?_
  ·intro W hSw; (try dsimp only at hSw); go_simp; try with_reducible rfl
  try simp only [Act.put,List.setIfInBounds_toArray,List.set_cons_zero,List.set_cons_succ]
  refine wpAnyH_skips (by kernel_rfl) (by rintro (_ | d) c a w h <;> exact h) (by assumption) [36,37,38,39,40,41,42,43,44,45,46,47,48,49,50,51,52,53,54,55,56,57,58] 2 _ _ (by kernel_rfl) ?_
  simp only [skipAct,skipSet,Act.put,List.setIfInBounds_toArray,List.set_cons_zero,List.set_cons_succ,List.getElem?_toArray,List.getElem?_cons_zero,List.getElem?_cons_succ]
  refine wpAnyH_take (i := 59) (oi := ⟨some 117,_,_,_,_,none⟩) (v := .bool false) rfl (by kernel_rfl) (by kernel_rfl) (by kernel_rfl) (fun _ _ _ h => h) (Or.inl ⟨by rfl,?_⟩) (by assumption) ?_
  ·intro W hSw; (try dsimp only at hSw); go_simp; try with_reducible rfl
  try simp only [Act.put,List.setIfInBounds_toArray,List.set_cons_zero,List.set_cons_succ]
  refine wpAnyH_take (i := 60) (oi := ⟨some 6,_,_,_,_,none⟩) (v := .bool false) rfl (by kernel_rfl) (by kernel_rfl) (by kernel_rfl) (fun _ _ _ h => h) (Or.inl ⟨by rfl,?_⟩) (by assumption) ?_
  ·intro W hSw; (try dsimp only at hSw); go_simp; try with_reducible rfl
  try simp only [Act.put,List.setIfInBounds_toArray,List.set_cons_zero,List.set_cons_succ]
  refine wpAnyH_done (by kernel_rfl) ?_ _
  have hcA := HCA.out ()
  go_wp2
  go_ret
  exact ⟨by simp,C1.out⟩
 ·have d1 : decide (0 < s1) = true := decide_eq_true g1
  have d2 : decide (0 < s2) = false := decide_eq_false g2
  rw [d1,d2]
  go_enter Tryz.func20,Tryz.ntmps20
  go_upto_region 8 with (first
   |(go_at_call 51; (with_reducible refine H1.out.mono ?_); rintro r w1 ⟨rfl,hw1⟩; obtain rfl := hw1.symm)
   |(go_at_call 51; (with_reducible refine H2.out.mono ?_); rintro r w1 ⟨rfl,hw1⟩; obtain rfl := hw1.symm)
   |(go_at_call 53; (with_reducible refine H3.out.mono ?_); rintro r w3 ⟨rfl,hb3⟩; have B3 := Lib.hid hb3; clear hb3)
   |(go_at_call 51; (with_reducible refine (H4.out _ B3.out).mono ?_); rintro r w4 ⟨rfl,hw4⟩; obtain rfl := hw4.symm)
   |(go_at_call 51; (with_reducible refine (H5.out _ B3.out).mono ?_); rintro r w4 ⟨rfl,hw4⟩; obtain rfl := hw4.symm))
  have C0 : Hid (Below w.heap.size w w3.drew) := B3.out.drew
  have n0 := HN.out _ C0.out
  go_region_held3 (fun W => W.cell? ⟨xb,0,none⟩ = some (.slice (some ⟨b0,off,none⟩) N cap) ∧ W.cell? ⟨b0,off + kc * 2,none⟩ = some (.float .f64 pc) ∧ W.cell? ⟨b0,off + kc * 2 + 1,none⟩ = some (.float .f64 pc') ∧ W.cell? ⟨b0,off + kd * 2,none⟩ = some (.float .f64 pd) ∧ W.cell? ⟨b0,off + kd * 2 + 1,none⟩ = some (.float .f64 pd') ∧ W.cell? ⟨b0,off + kb * 2,none⟩ = some (.float .f64 pb) ∧ W.cell? ⟨b0,off + kb * 2 + 1,none⟩ = some (.float .f64 pb') ∧ W.cell? ⟨b0,off + ka * 2,none⟩ = some (.float .f64 pa) ∧ W.cell? ⟨b0,off + ka * 2 + 1,none⟩ = some (.float .f64 pa')) (first | with_reducible exact n0 | with_reducible exact n1 | with_reducible exact n2)
   (first
    |(go_at_call 54; (with_reducible refine (HL1.out _).mono ?_); rintro r w5 ⟨rfl,hb1⟩; have C1 := Lib.hid (bseq C0.out hb1); have n1 := HN.out _ C1.out)
    |(go_at_call 54; (with_reducible refine (HL2.out _).mono ?_); rintro r w6 ⟨rfl,hb2⟩; have C2 := Lib.hid (bseq C1.out hb2); have n2 := HN.out _ C2.out))
  all_goals
   go_wp2
   go_ret
   exact ⟨by simp,C2.out⟩
 ·have d1 : decide (0 < s1) = true := decide_eq_true g1
  have d2 : decide (0 < s2) = true := decide_eq_true g2
  rw [d1,d2]
  go_enter Tryz.func20,Tryz.ntmps20
  go_upto_region 8 with (first
   |(go_at_call 51; (with_reducible refine H1.out.mono ?_); rintro r w1 ⟨rfl,hw1⟩; obtain rfl := hw1.symm)
   |(go_at_call 51; (with_reducible refine H2.out.mono ?_); rintro r w1 ⟨rfl,hw1⟩; obtain rfl := hw1.symm)
   |(go_at_call 53; (with_reducible refine H3.out.mono ?_); rintro r w3 ⟨rfl,hb3⟩; have B3 := Lib.hid hb3; clear hb3)
   |(go_at_call 51; (with_reducible refine (H4.out _ B3.out).mono ?_); rintro r w4 ⟨rfl,hw4⟩; obtain rfl := hw4.symm)
   |(go_at_call 51; (with_reducible refine (H5.out _ B3.out).mono ?_); rintro r w4 ⟨rfl,hw4⟩; obtain rfl := hw4.symm))
  have C0 : Hid (Below w.heap.size w w3.drew) := B3.out.drew
  have n0 := HN.out _ C0.out
  go_region_held3 (fun W => W.cell? ⟨xb,0,none⟩ = some (.slice (some ⟨b0,off,none⟩) N cap) ∧ W.cell? ⟨b0,off + kc * 2,none⟩ = some (.float .f64 pc) ∧ W.cell? ⟨b0,off + kc * 2 + 1,none⟩ = some (.float .f64 pc') ∧ W.cell? ⟨b0,off + kd * 2,none⟩ = some (.float .f64 pd) ∧ W.cell? ⟨b0,off + kd * 2 + 1,none⟩ = some (.float .f64 pd') ∧ W.cell? ⟨b0,off + kb * 2,none⟩ = some (.float .f64 pb) ∧ W.cell? ⟨b0,off + kb * 2 + 1,none⟩ = some (.float .f64 pb') ∧ W.cell? ⟨b0,off + ka * 2,none⟩ = some (.float .f64 pa) ∧ W.cell? ⟨b0,off + ka * 2 + 1,none⟩ = some (.float .f64 pa')) (first | with_reducible exact n0 | with_reducible exact n1 | with_reducible exact n2)
   (first
    |(go_at_call 54; (with_reducible refine (HL1.out _).mono ?_); rintro r w5 ⟨rfl,hb1⟩; have C1 := Lib.hid (bseq C0.out hb1); have n1 := HN.out _ C1.out)
    |(go_at_call 54; (with_reducible refine (HL2.out _).mono ?_); rintro r w6 ⟨rfl,hb2⟩; have C2 := Lib.hid (bseq C1.out hb2); have n2 := HN.out _ C2.out))
  all_goals
   go_wp2
   go_ret
   exact ⟨by simp,C2.out⟩
theorem may17 {w : World} {B xb : Nat} {ad : Option Addr} {cap : Nat} {T : List Tri3} {vT : Value} {S : List Seg3} {vS : Value} {M : MeshM} (h : RMs w B xb M.P ad cap T vT S vS) (tw : Twin M T) (fx : FixT M.fx S) (h64 : ∀ p,p ∈ M.P → pt64 p) (hT : T.length ≤ 1000000) (hS : S.length ≤ 1000000) (a b : Int) :
  Calls Tryz.prog 20 #[.pointer (some ⟨xb,0,none⟩),.int .i64 a,.int .i64 b] w fun r w' => r = .returned (.bool (shB M a b && mayB M a b)) ∧ Below w.heap.size w w' := by
 cases hq : shB M a b
 ·exact may17_no h tw hT a b hq
 ·exact may17_yes h tw fx h64 hT hS a b hq
end Go.Proofs.YtbagikgpgdlkcaaGreatDoor
