/- Part of the proof. No conditions. -/
import Derived.Test.YtbagikgpgdlkcaaGreatDoorZh
import Derived.Test.YtbagikgpgdlkcaaGreatDoorZi
import Derived.Test.YtbagikgpgdlkcaaGreatDoorZj
import Derived.Test.YtbagikgpgdlkcaaGreatDoorZk
set_option linter.all false
set_option maxHeartbeats 8000000
set_option maxRecDepth 100000
namespace Go.Proofs.YtbagikgpgdlkcaaGreatDoor
open Go.RowKit Tvf Go.Maps Go.WideMaps
theorem sign05 {a b c d : Pt} (ha : pt64 a ∧ ptOK a = true) (hb : pt64 b ∧ ptOK b = true) (hc : pt64 c ∧ ptOK c = true) (hd : pt64 d ∧ ptOK d = true) (w : World) :
  Calls Tryz.prog 89 #[V a,V b,V c,V d] w fun r w' => r = .returned (.int .i64 (sgnI (det4 a b c d))) ∧ Below w.heap.size w w' := by
 obtain ⟨ax,ay⟩ := a
 obtain ⟨bx,bY⟩ := b
 obtain ⟨cx,cy⟩ := c
 obtain ⟨dx,dy⟩ := d
 have HA : Hid (∀ W,Calls Tryz.prog 81 #[.agg #[.float .f64 ax,.float .f64 ay]] W fun r w' => r = .returned (.bool true) ∧ Below W.heap.size W w') := fun W => by have := may05 (p := (ax,ay)) (w := W) ha.1; rwa [ha.2] at this
 have HB : Hid (∀ W,Calls Tryz.prog 81 #[.agg #[.float .f64 bx,.float .f64 bY]] W fun r w' => r = .returned (.bool true) ∧ Below W.heap.size W w') := fun W => by have := may05 (p := (bx,bY)) (w := W) hb.1; rwa [hb.2] at this
 have HC : Hid (∀ W,Calls Tryz.prog 81 #[.agg #[.float .f64 cx,.float .f64 cy]] W fun r w' => r = .returned (.bool true) ∧ Below W.heap.size W w') := fun W => by have := may05 (p := (cx,cy)) (w := W) hc.1; rwa [hc.2] at this
 have HD : Hid (∀ W,Calls Tryz.prog 81 #[.agg #[.float .f64 dx,.float .f64 dy]] W fun r w' => r = .returned (.bool true) ∧ Below W.heap.size W w') := fun W => by have := may05 (p := (dx,dy)) (w := W) hd.1; rwa [hd.2] at this
 have HT : Hid (∀ W,Calls Tryz.prog 122 #[.agg #[.float .f64 ax,.float .f64 ay],.agg #[.float .f64 bx,.float .f64 bY],.agg #[.float .f64 cx,.float .f64 cy],.agg #[.float .f64 dx,.float .f64 dy]] W fun r w' => ∃ (ee : Int) (ad : Option Addr) (l cp : Nat),r = .returned (.agg #[.int .i64 (sgnI (det4 (ax,ay) (bx,bY) (cx,cy) (dx,dy))),.slice ad l cp,.int .i64 ee]) ∧ Hid (Below W.heap.size W w')) := fun W => sum05 ha hb hc hd
 have HP := Lib.hid (P8.made w ax ay bx bY cx cy dx dy 68)
 have HB0 : Hid (Below w.heap.size w ((((w.alloc (.cells #[.float .f64 ax,.float .f64 ay] 68)).alloc (.cells #[.float .f64 bx,.float .f64 bY] 68)).alloc (.cells #[.float .f64 cx,.float .f64 cy] 68)).alloc (.cells #[.float .f64 dx,.float .f64 dy] 68))) := (((Below.refl _ w).alloc (Nat.le_refl _) _).alloc (by simp) _).alloc (by simp <;> omega) _ |>.alloc (by simp <;> omega) _
 generalize sgnI (det4 (ax,ay) (bx,bY) (cx,cy) (dx,dy)) = sg at *
 have hf := fun e d l cp W => num_field0 sg e d l cp W
 unfold V at *
 dsimp only at *
 clear ha hb hc hd
 go_enter Tryz.func89,Tryz.ntmps89
 go_wp2_with (first
  |(go_at_call 81; (with_reducible refine (HA.out _).mono ?_); rintro r w1 ⟨rfl,hb1⟩; have p1 := HP.out.below hb1; have P1 := Lib.hid p1; obtain ⟨q1,q2,q3,q4,q5,q6,q7,q8⟩ := p1; have B1 := Lib.hid (bseq HB0.out hb1))
  |(go_at_call 81; (with_reducible refine (HB.out _).mono ?_); rintro r w2 ⟨rfl,hb2⟩; clear q1 q2 q3 q4 q5 q6 q7 q8; have p2 := P1.out.below hb2; have P2 := Lib.hid p2; obtain ⟨q1,q2,q3,q4,q5,q6,q7,q8⟩ := p2; have B2 := Lib.hid (bseq B1.out hb2))
  |(go_at_call 81; (with_reducible refine (HC.out _).mono ?_); rintro r w3 ⟨rfl,hb3⟩; clear q1 q2 q3 q4 q5 q6 q7 q8; have p3 := P2.out.below hb3; have P3 := Lib.hid p3; obtain ⟨q1,q2,q3,q4,q5,q6,q7,q8⟩ := p3; have B3 := Lib.hid (bseq B2.out hb3))
  |(go_at_call 81; (with_reducible refine (HD.out _).mono ?_); rintro r w4 ⟨rfl,hb4⟩; clear q1 q2 q3 q4 q5 q6 q7 q8; have p4 := P3.out.below hb4; obtain ⟨q1,q2,q3,q4,q5,q6,q7,q8⟩ := p4; have B4 := Lib.hid (bseq B3.out hb4))
  |(go_at_call 122; (with_reducible refine (HT.out _).mono ?_); rintro r w5 ⟨ee,ad,l,cp,rfl,hb5⟩; have B5 := Lib.hid (bseq B4.out hb5.out)))
 go_ret
 exact ⟨rfl,B5.out⟩
theorem within05 {a b c d : Pt} (ha : pt64 a ∧ ptOK a = true) (hb : pt64 b ∧ ptOK b = true) (hc : pt64 c ∧ ptOK c = true) (hd : pt64 d ∧ ptOK d = true) (ht : signI a b c = 1) (w : World) :
  Calls Tryz.prog 52 #[V a,V b,V c,V d] w fun r w' => r = .returned (.bool (decide (0 < det4 a b c d))) ∧ Below w.heap.size w w' := by
 have HS := Lib.hid (fun W => sign05 ha hb hc hd W)
 have HL := Lib.hid (fun W => left05 ha.1 hb.1 hc.1 W)
 have e : decide (0 < det4 a b c d) = decide (0 < sgnI (det4 a b c d)) := by
  apply decide_eq_decide.2
  unfold sgnI
  generalize det4 a b c d = z
  by_cases h1 : z < 0
  ·rw [if_pos h1]; omega
  ·rw [if_neg h1]
   by_cases h2 : 0 < z
   ·rw [if_pos h2]; omega
   ·rw [if_neg h2]; omega
 rw [e]
 rw [ht] at HL
 obtain ⟨ax,ay⟩ := a
 obtain ⟨bx,bY⟩ := b
 obtain ⟨cx,cy⟩ := c
 obtain ⟨dx,dy⟩ := d
 have HP := Lib.hid (P8.made w ax ay bx bY cx cy dx dy 68)
 have HB0 : Hid (Below w.heap.size w ((((w.alloc (.cells #[.float .f64 ax,.float .f64 ay] 68)).alloc (.cells #[.float .f64 bx,.float .f64 bY] 68)).alloc (.cells #[.float .f64 cx,.float .f64 cy] 68)).alloc (.cells #[.float .f64 dx,.float .f64 dy] 68))) := (((Below.refl _ w).alloc (Nat.le_refl _) _).alloc (by simp) _).alloc (by simp <;> omega) _ |>.alloc (by simp <;> omega) _
 unfold V at *
 dsimp only at *
 generalize sgnI (det4 (ax,ay) (bx,bY) (cx,cy) (dx,dy)) = sg at *
 clear ha hb hc hd ht e
 by_cases hs : 0 < sg
 all_goals
  go_enter Tryz.func52,Tryz.ntmps52
  go_wp2_with (first
   |(go_at_call 89; (with_reducible refine (HS.out _).mono ?_); rintro r w1 ⟨rfl,hb1⟩; have p1 := HP.out.below hb1; obtain ⟨q1,q2,q3,q4,q5,q6,q7,q8⟩ := p1; have B1 := Lib.hid (bseq HB0.out hb1))
   |(go_at_call 54; (with_reducible refine (HL.out _).mono ?_); rintro r w2 ⟨rfl,hb2⟩; have B2 := Lib.hid (bseq B1.out hb2)))
  go_ret
  exact ⟨by simp [hs],B2.out⟩
def delB (M : MeshM) (a b : Int) : Bool := !(shB M a b && mayB M a b && decide (0 < det4 (ptAt M a) (ptAt M b) (ptAt M (apD M a b)) (ptAt M (apD M b a))))
theorem sgnI_pos1 {z : Int} (h : 0 < sgnI z) : sgnI z = 1 := by
 unfold sgnI at *
 split at h
 ·omega
 ·rename_i h1
  rw [if_neg h1]
  split at h
  ·rename_i h2; rw [if_pos h2]
  ·omega
theorem signI_one {a b c : Pt} (h : 0 < signI a b c) : signI a b c = 1 := by
 unfold signI at *
 split at h
 ·rename_i h1; rw [if_pos h1]; exact sgnI_pos1 h
 ·omega
theorem sh_points {M : MeshM} (hs : Sound M) {a b : Int} (hq : shB M a b = true) : ∃ c d : Int,M.ap a b = some c ∧ M.ap b a = some d ∧ apD M a b = c ∧ apD M b a = d ∧ (0 ≤ a ∧ a < M.P.length) ∧ (0 ≤ b ∧ b < M.P.length) ∧ (0 ≤ c ∧ c < M.P.length) ∧ (0 ≤ d ∧ d < M.P.length) ∧ signI (ptAt M a) (ptAt M b) (ptAt M c) = 1 := by
 unfold shB at hq
 rw [Bool.and_eq_true] at hq
 obtain ⟨c,hc⟩ := Option.isSome_iff_exists.1 hq.1
 obtain ⟨d,hd⟩ := Option.isSome_iff_exists.1 hq.2
 have w1 := hs.within3 hc
 have w2 := hs.within3 hd
 have e : ∀ i : Int,0 ≤ i ∧ i < M.P.length → ptAt M i = M.P.getD i.toNat (0,0) := fun i hi => by
  have := ptAt_yes (M := M) (x := i.toNat) (by omega)
  rwa [Int.toNat_of_nonneg hi.1] at this
 have h3 := hs.sgn a b c hc
 unfold signM at h3
 refine ⟨c,d,hc,hd,by unfold apD; rw [hc]; rfl,by unfold apD; rw [hd]; rfl,w1.1,w1.2.1,w1.2.2,w2.2.2,?_⟩
 rw [e a w1.1,e b w1.2.1,e c w1.2.2]
 exact signI_one h3
theorem ptAt_ok {M : MeshM} (h64 : ∀ p,p ∈ M.P → pt64 p) (hok : ∀ p,p ∈ M.P → ptOK p = true) {i : Int} (hi : 0 ≤ i ∧ i < M.P.length) : pt64 (ptAt M i) ∧ ptOK (ptAt M i) = true := by
 have e : ptAt M i = M.P.getD i.toNat (0,0) := by
  have := ptAt_yes (M := M) (x := i.toNat) (by omega)
  rwa [Int.toNat_of_nonneg hi.1] at this
 have hm := getD_memP (l := M.P) (k := i.toNat) (by omega)
 rw [e]
 exact ⟨h64 _ hm,hok _ hm⟩
theorem del17 {w : World} {B xb : Nat} {ad : Option Addr} {cap : Nat} {T : List Tri3} {vT : Value} {S : List Seg3} {vS : Value} {M : MeshM} (h : RMs w B xb M.P ad cap T vT S vS) (tw : Twin M T) (fx : FixT M.fx S) (h64 : ∀ p,p ∈ M.P → pt64 p) (hok : ∀ p,p ∈ M.P → ptOK p = true) (hT : T.length ≤ 1000000) (hS : S.length ≤ 1000000) (a b : Int) :
  Calls Tryz.prog 18 #[.pointer (some ⟨xb,0,none⟩),.int .i64 a,.int .i64 b] w fun r w' => r = .returned (.bool (delB M a b)) ∧ Below w.heap.size w w' := by
 have HM := Lib.hid (may17 h tw fx h64 hT hS a b)
 unfold delB
 cases hmy : shB M a b && mayB M a b
 ·rw [hmy] at HM
  clear h tw fx h64 hok hT hS hmy
  rw [Bool.false_and]
  go_enter Tryz.func18,Tryz.ntmps18
  go_wp2_with (go_at_call 20; (with_reducible refine HM.out.mono ?_); rintro r w1 ⟨rfl,hb1⟩)
  go_ret
  exact ⟨rfl,hb1⟩
 ·rw [hmy] at HM
  have hsh : shB M a b = true := by rw [Bool.and_eq_true] at hmy; exact hmy.1
  obtain ⟨c,d,hc,hd,e1,e2,w1,w2,w3,w4,hsg⟩ := sh_points tw.s hsh
  have H1 := Lib.hid (fun W (hb : Below w.heap.size w W) => apexM (h.below hb) tw hT a b)
  have H2 := Lib.hid (fun W (hb : Below w.heap.size w W) => apexM (h.below hb) tw hT b a)
  rw [hc] at H1
  rw [hd] at H2
  rw [e1,e2]
  have nat : ∀ z : Int,0 ≤ z ∧ z < M.P.length → ∃ k : Nat,z = k ∧ k < M.P.length := fun z hz => ⟨z.toNat,by omega,by omega⟩
  have HW := Lib.hid (fun W => within05 (ptAt_ok h64 hok w1) (ptAt_ok h64 hok w2) (ptAt_ok h64 hok w3) (ptAt_ok h64 hok w4) hsg W)
  obtain ⟨ka,rfl,la⟩ := nat a w1
  obtain ⟨kb,rfl,lb⟩ := nat b w2
  obtain ⟨kc,rfl,lc⟩ := nat c w3
  obtain ⟨kd,rfl,ld⟩ := nat d w4
  obtain ⟨b0,off,rfl,hlt,hcl⟩ := h.pts (by omega)
  rw [ptAt_yes la,ptAt_yes lb,ptAt_yes lc,ptAt_yes ld] at HW ⊢
  have HN : Hid (∀ W,Below w.heap.size w W → W.cell? ⟨xb,0,none⟩ = some (.slice (some ⟨b0,off,none⟩) M.P.length cap) ∧ W.cell? ⟨b0,off + kc * 2,none⟩ = some (.float .f64 (M.P.getD kc (0,0)).1) ∧ W.cell? ⟨b0,off + kc * 2 + 1,none⟩ = some (.float .f64 (M.P.getD kc (0,0)).2) ∧ W.cell? ⟨b0,off + kd * 2,none⟩ = some (.float .f64 (M.P.getD kd (0,0)).1) ∧ W.cell? ⟨b0,off + kd * 2 + 1,none⟩ = some (.float .f64 (M.P.getD kd (0,0)).2) ∧
    W.cell? ⟨b0,off + kb * 2,none⟩ = some (.float .f64 (M.P.getD kb (0,0)).1) ∧ W.cell? ⟨b0,off + kb * 2 + 1,none⟩ = some (.float .f64 (M.P.getD kb (0,0)).2) ∧ W.cell? ⟨b0,off + ka * 2,none⟩ = some (.float .f64 (M.P.getD ka (0,0)).1) ∧ W.cell? ⟨b0,off + ka * 2 + 1,none⟩ = some (.float .f64 (M.P.getD ka (0,0)).2)) := fun W hb =>
   ⟨cell_keep h.cells.1 hb,cell_keep (hcl kc lc).1 hb,cell_keep (hcl kc lc).2 hb,cell_keep (hcl kd ld).1 hb,cell_keep (hcl kd ld).2 hb,cell_keep (hcl kb lb).1 hb,cell_keep (hcl kb lb).2 hb,cell_keep (hcl ka la).1 hb,cell_keep (hcl ka la).2 hb⟩
  have za : (0 : Int) ≤ (ka : Int) := by omega
  have zb : (0 : Int) ≤ (kb : Int) := by omega
  have zc : (0 : Int) ≤ (kc : Int) := by omega
  have zd : (0 : Int) ≤ (kd : Int) := by omega
  have ya : (ka : Int) < (M.P.length : Int) := by omega
  have yb : (kb : Int) < (M.P.length : Int) := by omega
  have yc : (kc : Int) < (M.P.length : Int) := by omega
  have yd : (kd : Int) < (M.P.length : Int) := by omega
  unfold V at HW
  clear h tw fx h64 hok hT hS hlt hcl la lb lc ld hmy hsh hc hd e1 e2 w1 w2 w3 w4 hsg nat
  generalize decide (0 < det4 (M.P.getD ka (0,0)) (M.P.getD kb (0,0)) (M.P.getD kc (0,0)) (M.P.getD kd (0,0))) = v at *
  generalize (M.P.getD ka (0,0)).1 = pa at *
  generalize (M.P.getD ka (0,0)).2 = pa' at *
  generalize (M.P.getD kb (0,0)).1 = pb at *
  generalize (M.P.getD kb (0,0)).2 = pb' at *
  generalize (M.P.getD kc (0,0)).1 = pc at *
  generalize (M.P.getD kc (0,0)).2 = pc' at *
  generalize (M.P.getD kd (0,0)).1 = pd at *
  generalize (M.P.getD kd (0,0)).2 = pd' at *
  generalize M.P.length = N at *
  rw [Bool.true_and]
  go_enter Tryz.func18,Tryz.ntmps18
  go_upto_region 5 with (first
   |(go_at_call 20; (with_reducible refine HM.out.mono ?_); rintro r w1 ⟨rfl,hb1⟩; have B1 := Lib.hid hb1; clear hb1)
   |(go_at_call 51; (with_reducible refine (H1.out _ B1.out).mono ?_); rintro r w2 ⟨rfl,hw2⟩; obtain rfl := hw2.symm)
   |(go_at_call 51; (with_reducible refine (H2.out _ B1.out).mono ?_); rintro r w2 ⟨rfl,hw2⟩; obtain rfl := hw2.symm))
  have C0 : Hid (Below w.heap.size w w1.drew) := B1.out.drew
  have n0 := HN.out _ C0.out
  go_region_held3 (fun W => W.cell? ⟨xb,0,none⟩ = some (.slice (some ⟨b0,off,none⟩) N cap) ∧ W.cell? ⟨b0,off + kc * 2,none⟩ = some (.float .f64 pc) ∧ W.cell? ⟨b0,off + kc * 2 + 1,none⟩ = some (.float .f64 pc') ∧ W.cell? ⟨b0,off + kd * 2,none⟩ = some (.float .f64 pd) ∧ W.cell? ⟨b0,off + kd * 2 + 1,none⟩ = some (.float .f64 pd') ∧ W.cell? ⟨b0,off + kb * 2,none⟩ = some (.float .f64 pb) ∧ W.cell? ⟨b0,off + kb * 2 + 1,none⟩ = some (.float .f64 pb') ∧ W.cell? ⟨b0,off + ka * 2,none⟩ = some (.float .f64 pa) ∧ W.cell? ⟨b0,off + ka * 2 + 1,none⟩ = some (.float .f64 pa')) (first | with_reducible exact n0 | with_reducible exact n1)
   (first
    |(go_at_call 52; (with_reducible refine (HW.out _).mono ?_); rintro r w3 ⟨rfl,hb3⟩; have C1 := Lib.hid (bseq C0.out hb3); have n1 := HN.out _ C1.out))
  all_goals
   go_wp2
   go_ret
   exact ⟨rfl,C1.out⟩
def XSt (w W : World) (B xb : Nat) (P : List Pt) (ad : Option Addr) (cap : Nat) (vT0 : Value) (S : List Seg3) (vS : Value) (T : List Tri3) : Prop :=
 ∃ vT,RMs W B xb P ad cap T vT S vS ∧ Stay (RB xb ad vT0 vS) w W ∧ ∀ i,vT.ownBlock = some i → vT0.ownBlock = some i ∨ w.heap.size ≤ i
section
variable {w W : World} {B xb : Nat} {P : List Pt} {ad : Option Addr} {cap : Nat} {vT0 : Value} {S : List Seg3} {vS : Value} {T : List Tri3}
theorem XSt.of {vT : Value} (h : RMs w B xb P ad cap T vT S vS) : XSt w w B xb P ad cap vT S vS T := ⟨vT,h,Stay.refl _ _,fun i e => .inl e⟩
theorem XSt.below {W' : World} (h : XSt w W B xb P ad cap vT0 S vS T) (hb : Below W.heap.size W W') : XSt w W' B xb P ad cap vT0 S vS T := by
 obtain ⟨vT,h1,h2,h3⟩ := h
 exact ⟨vT,h1.below hb,h2.trans (Stay.of_below hb),h3⟩
theorem XSt.step {W' : World} {T' : List Tri3} {vT vT' : Value} (h2 : Stay (RB xb ad vT0 vS) w W) (h3 : ∀ i,vT.ownBlock = some i → vT0.ownBlock = some i ∨ w.heap.size ≤ i) (k1 : RMs W' B xb P ad cap T' vT' S vS) (k2 : Stay (RB xb ad vT vS) W W') (k3 : ∀ i,vT'.ownBlock = some i → vT.ownBlock = some i ∨ W.heap.size ≤ i) : XSt w W' B xb P ad cap vT0 S vS T' := by
 refine ⟨vT', k1,⟨k2.os.trans h2.os,k2.tape.trans h2.tape,k2.output.trans h2.output,Nat.le_trans h2.size k2.size,fun i hi hn => ?_⟩,fun i e => ?_⟩
 ·rw [k2.block i (Nat.lt_of_lt_of_le hi h2.size) (fun q => hn ?_),h2.block i hi hn]
  rcases q with q | q | q | q
  ·exact .inl q
  ·exact .inr (.inl q)
  ·rcases h3 i q with e | e
   ·exact .inr (.inr (.inl e))
   ·omega
  ·exact .inr (.inr (.inr q))
 ·rcases k3 i e with e | e
  ·exact h3 i e
  ·exact .inr (Nat.le_trans h2.size e)
theorem XSt.kill (h : XSt w W B xb P ad cap vT0 S vS T) (hT : T.length ≤ 1000000) (a b c : Int) :
  Calls Tryz.prog 36 #[.pointer (some ⟨xb,0,none⟩),.int .i64 a,.int .i64 b,.int .i64 c] W fun r w' => (∃ k,r = .returned (.int .i64 k)) ∧ Hid (XSt w w' B xb P ad cap vT0 S vS (killL T a b c)) := by
 obtain ⟨vT,h1,h2,h3⟩ := h
 refine (kill15s h1 hT a b c).mono ?_
 rintro r w' ⟨rfl,vT', k1,k2,k3⟩
 exact ⟨⟨_,rfl⟩,XSt.step h2 h3 k1 (k2.mono (fun i e => .inl e)) k3⟩
theorem XSt.make (h : XSt w W B xb P ad cap vT0 S vS T) (h64 : ∀ p,p ∈ P → pt64 p) (hT : T.length ≤ 1000000) (a b c : Int) :
  Calls Tryz.prog 31 #[.pointer (some ⟨xb,0,none⟩),.int .i64 a,.int .i64 b,.int .i64 c] W fun r w' => (∃ k,r = .returned (.int .i64 k)) ∧ Hid (XSt w w' B xb P ad cap vT0 S vS (mkR P T a b c)) := by
 obtain ⟨vT,h1,h2,h3⟩ := h
 refine (make15s h1 h64 hT a b c).mono ?_
 rintro r w' ⟨rfl,vT', k1,k2,k3⟩
 exact ⟨⟨_,rfl⟩,XSt.step h2 h3 k1 k2 k3⟩
end
theorem mkR_len (P : List Pt) (T : List Tri3) (a b c : Int) : (mkR P T a b c).length ≤ T.length + 1 := by
 unfold mkR; split
 ·rw [List.length_append]; exact Nat.le_refl _
 ·omega
def turnT (M : MeshM) (T : List Tri3) (a b : Int) : List Tri3 := mkR M.P (mkR M.P (killL (killL T a b (apD M a b)) b a (apD M b a)) (apD M b a) b (apD M a b)) a (apD M b a) (apD M a b)
theorem Twin.turn {M : MeshM} {T : List Tri3} (h : Twin M T) (a b : Int) : Twin (turnR M a b) (turnT M T a b) := by
 unfold turnR turnT
 have h1 := (h.kill a b (apD M a b)).1
 have h2 := (h1.kill b a (apD M b a)).1
 have h3 := h2.make (apD M b a) b (apD M a b)
 rw [killR_P,killR_P] at h3
 have h4 := h3.make a (apD M b a) (apD M a b)
 rw [makeR_P,killR_P,killR_P] at h4
 exact h4
theorem turnR_fx (M : MeshM) (a b : Int) : (turnR M a b).fx = M.fx := by unfold turnR; rw [makeR_fx,makeR_fx,killR_fx,killR_fx]
theorem turnT_len (M : MeshM) (T : List Tri3) (a b : Int) : (turnT M T a b).length ≤ T.length + 2 := by
 unfold turnT
 refine Nat.le_trans (mkR_len _ _ _ _ _) (Nat.succ_le_succ (Nat.le_trans (mkR_len _ _ _ _ _) (Nat.succ_le_succ ?_)))
 exact Nat.le_trans (killL_len _ _ _ _) (killL_len _ _ _ _)
def tnCode (M : MeshM) (a b : Int) : Int := if shB M a b = false then 5 else if mayB M a b = false then 14 else 0
def tnT (M : MeshM) (T : List Tri3) (a b : Int) : List Tri3 := if tnCode M a b = 0 then turnT M T a b else T
theorem turn17 {w : World} {B xb : Nat} {ad : Option Addr} {cap : Nat} {T : List Tri3} {vT : Value} {S : List Seg3} {vS : Value} {M : MeshM} (h : RMs w B xb M.P ad cap T vT S vS) (tw : Twin M T) (fx : FixT M.fx S) (h64 : ∀ p,p ∈ M.P → pt64 p) (hT : T.length ≤ 100000) (hS : S.length ≤ 1000000) (a b : Int) :
  Calls Tryz.prog 21 #[.pointer (some ⟨xb,0,none⟩),.int .i64 a,.int .i64 b] w fun r w' => r = .returned (.int .i64 (tnCode M a b)) ∧ XSt w w' B xb M.P ad cap vT S vS (tnT M T a b) := by
 have H1 := Lib.hid (apexM h tw (by omega) a b)
 have H2 := Lib.hid (apexM h tw (by omega) b a)
 have HM := Lib.hid (may17 h tw fx h64 (by omega) hS a b)
 have HX := Lib.hid (XSt.of h)
 have HK : Hid (∀ W T' x y z,XSt w W B xb M.P ad cap vT S vS T' → T'.length ≤ 1000000 → Calls Tryz.prog 36 #[.pointer (some ⟨xb,0,none⟩),.int .i64 x,.int .i64 y,.int .i64 z] W fun r w' => (∃ k,r = .returned (.int .i64 k)) ∧ Hid (XSt w w' B xb M.P ad cap vT S vS (killL T' x y z))) := fun W T' x y z hx hl => hx.kill hl x y z
 have HMK : Hid (∀ W T' x y z,XSt w W B xb M.P ad cap vT S vS T' → T'.length ≤ 1000000 → Calls Tryz.prog 31 #[.pointer (some ⟨xb,0,none⟩),.int .i64 x,.int .i64 y,.int .i64 z] W fun r w' => (∃ k,r = .returned (.int .i64 k)) ∧ Hid (XSt w w' B xb M.P ad cap vT S vS (mkR M.P T' x y z))) := fun W T' x y z hx hl => hx.make h64 hl x y z
 have HTL := Lib.hid hT
 unfold tnT
 cases hs : shB M a b
 ·have hc : Hid (tnCode M a b = 5) := by unfold Hid tnCode; rw [if_pos hs]
  rw [hc.out,if_neg (by decide)]
  unfold shB at hs
  clear h tw fx h64 hT hS
  generalize (M.ap a b).getD 0 = c at *
  generalize (M.ap b a).getD 0 = d at *
  generalize (M.ap a b).isSome = p at *
  generalize (M.ap b a).isSome = q at *
  have h2 : p = false ∨ (p = true ∧ q = false) := by cases p <;> cases q <;> simp at hs ⊢
  clear hs
  rcases h2 with rfl | ⟨rfl,rfl⟩
  all_goals
   go_enter Tryz.func21,Tryz.ntmps21
   go_wp2_with (first
    |(go_at_call 51; with_reducible refine H1.out.mono ?_; rintro r w1 ⟨rfl,rfl⟩)
    |(go_at_call 51; with_reducible refine H2.out.mono ?_; rintro r w2 ⟨rfl,rfl⟩))
   go_ret
   exact ⟨rfl,HX.out⟩
 ·rw [hs,Bool.true_and] at HM
  have hpq : (M.ap a b).isSome = true ∧ (M.ap b a).isSome = true := by unfold shB at hs; rw [Bool.and_eq_true] at hs; exact hs
  rw [hpq.1] at H1
  rw [hpq.2] at H2
  change Hid (Calls _ _ _ _ fun r w' => r = .returned (.tuple #[.int .i64 (apD M a b),.bool true]) ∧ w' = w) at H1
  change Hid (Calls _ _ _ _ fun r w' => r = .returned (.tuple #[.int .i64 (apD M b a),.bool true]) ∧ w' = w) at H2
  cases hm : mayB M a b
  ·have hc : Hid (tnCode M a b = 14) := by unfold Hid tnCode; rw [if_neg (by rw [hs]; simp),if_pos hm]
   rw [hc.out,if_neg (by decide)]
   rw [hm] at HM
   clear h tw fx h64 hT hS hs hm hpq HK HMK
   generalize apD M a b = c at *
   generalize apD M b a = d at *
   go_enter Tryz.func21,Tryz.ntmps21
   go_wp2_with (first
    |(go_at_call 51; (with_reducible refine H1.out.mono ?_); rintro r w1 ⟨rfl,hw1⟩; obtain rfl := hw1.symm)
    |(go_at_call 51; (with_reducible refine H2.out.mono ?_); rintro r w1 ⟨rfl,hw1⟩; obtain rfl := hw1.symm)
    |(go_at_call 20; (with_reducible refine HM.out.mono ?_); rintro r w3 ⟨rfl,hb3⟩))
   go_ret
   exact ⟨rfl,HX.out.below hb3⟩
  ·have hc : Hid (tnCode M a b = 0) := by unfold Hid tnCode; rw [if_neg (by rw [hs]; simp),if_neg (by rw [hm]; simp)]
   rw [hc.out,if_pos rfl]
   unfold turnT
   rw [hm] at HM
   have L1 := Lib.hid (killL_len T a b (apD M a b))
   have L2 := Lib.hid (killL_len (killL T a b (apD M a b)) b a (apD M b a))
   have L3 := Lib.hid (mkR_len M.P (killL (killL T a b (apD M a b)) b a (apD M b a)) (apD M b a) b (apD M a b))
   clear h tw fx h64 hT hS hs hm hpq
   generalize apD M a b = c at *
   generalize apD M b a = d at *
   go_enter Tryz.func21,Tryz.ntmps21
   go_wp2_with (first
    |(go_at_call 51; (with_reducible refine H1.out.mono ?_); rintro r w1 ⟨rfl,hw1⟩; obtain rfl := hw1.symm)
    |(go_at_call 51; (with_reducible refine H2.out.mono ?_); rintro r w1 ⟨rfl,hw1⟩; obtain rfl := hw1.symm)
    |(go_at_call 20; (with_reducible refine HM.out.mono ?_); rintro r w3 ⟨rfl,hb3⟩; have X3 := Lib.hid (HX.out.below hb3); clear hb3)
    |(go_at_call 36; (with_reducible refine (HK.out _ _ _ _ _ X3.out (by have := HTL.out; omega)).mono ?_); rintro r w4 ⟨⟨k4,rfl⟩,X4⟩; clear X3)
    |(go_at_call 36; (with_reducible refine (HK.out _ _ _ _ _ X4.out (by have := HTL.out; have := L1.out; omega)).mono ?_); rintro r w5 ⟨⟨k5,rfl⟩,X5⟩; clear X4)
    |(go_at_call 31; (with_reducible refine (HMK.out _ _ _ _ _ X5.out (by have := HTL.out; have := L1.out; have := L2.out; omega)).mono ?_); rintro r w6 ⟨⟨k6,rfl⟩,X6⟩; clear X5)
    |(go_at_call 31; (with_reducible refine (HMK.out _ _ _ _ _ X6.out (by have := HTL.out; have := L1.out; have := L2.out; have := L3.out; omega)).mono ?_); rintro r w7 ⟨⟨k7,rfl⟩,X7⟩; clear X6))
   go_ret
   exact ⟨rfl,X7.out⟩
end Go.Proofs.YtbagikgpgdlkcaaGreatDoor
