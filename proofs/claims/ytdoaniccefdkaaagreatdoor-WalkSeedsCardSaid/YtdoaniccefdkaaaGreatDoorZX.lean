/- Part of the proof. No conditions. -/
import Derived.Test.YtdoaniccefdkaaaGreatDoorZT
import Derived.Test.YtdoaniccefdkaaaGreatDoorZW
import Derived.BigRegion
import Derived.Deep.AppendLies
import Derived.StillTailTactics

set_option linter.all false
/- walk.ends, Across. -/
namespace Go.Proofs.YtdoaniccefdkaaaGreatDoor
open Go.RowKit Tvf Go.Maps Go.WideMaps

def V0 : Value := .agg #[.float .f64 0, .float .f64 0]

set_option maxRecDepth 100000 in
set_option maxHeartbeats 1000000 in
theorem ends_nil (a b : Int) (w : World) :
    Calls Tryz.prog 115 #[.pointer none, .int .i64 a, .int .i64 b] w fun r w' => r = .returned (.tuple #[V0, V0, .int .i64 2]) ∧ Below w.heap.size w w' := by
  go_enter Tryz.func115, Tryz.ntmps115
  go_wp2
  go_returns
  exact ⟨rfl, ((Below.refl _ _).alloc (Nat.le_refl _) _).alloc (by simp) _⟩

set_option maxRecDepth 100000 in
set_option maxHeartbeats 1000000 in
theorem across_nil (a b : Int) (w : World) :
    Calls Tryz.prog 54 #[.pointer none, .int .i64 a, .int .i64 b] w fun r w' => r = .returned (.tuple #[.slice none 0 0, .int .i64 2]) ∧ Below w.heap.size w w' := by
  have HE := Lib.hid (ends_nil a b)
  unfold V0 at HE
  go_enter Tryz.func54, Tryz.ntmps54
  go_wp2_with (go_at_call 115; with_reducible refine (HE.out _).mono ?_; rintro r w1 ⟨rfl, hb1⟩; have b1 := ((Below.refl _ w).alloc (Nat.le_refl _) (.cells #[.pointer none] 29)).trans (hb1.mono (by simp)))
  go_ret2
  exact ⟨rfl, (b1.alloc b1.size _).alloc (Nat.le_trans b1.size (by simp)) _⟩

set_option maxRecDepth 100000 in
set_option maxHeartbeats 1000000 in
theorem through_nil (a b : Int) (w : World) :
    Calls Tryz.prog 55 #[.pointer none, .int .i64 a, .int .i64 b] w fun r w' => r = .returned (.tuple #[.slice none 0 0, .int .i64 2]) ∧ Below w.heap.size w w' := by
  have HE := Lib.hid (ends_nil a b)
  unfold V0 at HE
  go_enter Tryz.func55, Tryz.ntmps55
  go_wp2_with (go_at_call 115; with_reducible refine (HE.out _).mono ?_; rintro r w1 ⟨rfl, hb1⟩; have b1 := ((Below.refl _ w).alloc (Nat.le_refl _) (.cells #[.pointer none] 29)).trans (hb1.mono (by simp)))
  go_ret2
  exact ⟨rfl, (b1.alloc b1.size _).alloc (Nat.le_trans b1.size (by simp)) _⟩

theorem BoxN.put2 {T : TypeId} {W : World} {b : Nat} {x y : Value} (h : BoxN T W b #[x, y]) (x' y' : Value) : BoxN T ((W.setCell ⟨b, 0, none⟩ x').setCell ⟨b, 1, none⟩ y') b #[x', y'] :=
  (h.set 0 x' (by simp)).set 1 y' (by simp)

set_option maxRecDepth 100000 in
set_option maxHeartbeats 4000000 in
theorem ends_walk {w : World} {mb n : Nat} {M : MeshM} {F : Nat → Prop} (h : MeshAt w mb n M F) (a b : Int) (ha : hasM M a = true) (hb : hasM M b = true) :
    Calls Tryz.prog 115 #[.pointer (some ⟨mb, 0, none⟩), .int .i64 a, .int .i64 b] w fun r w' => r = .returned (.tuple #[V (ptAt M a), V (ptAt M b), .int .i64 0]) ∧ Below w.heap.size w w' := by
  have HA := Lib.hid (fun W (hb : Below w.heap.size w W) => point_walk (h.below hb) a)
  have HB := Lib.hid (fun W (hb : Below w.heap.size w W) => point_walk (h.below hb) b)
  rw [ha] at HA
  rw [hb] at HB
  clear h ha hb
  unfold V
  generalize ptAt M a = pa at *
  generalize ptAt M b = pb at *
  have e1 : (w.alloc (.cells #[.float .f64 0, .float .f64 0] 52)).heap.size = w.heap.size + 1 := by simp
  obtain ⟨HR6, HR7, HBW⟩ := find_boxes w #[.float .f64 0, .float .f64 0] #[.float .f64 0, .float .f64 0] 52 52
  go_enter Tryz.func115, Tryz.ntmps115
  go_wp2_with (first
    | (go_at_call 48; with_reducible refine (HA.out _ HBW).mono ?_; rintro r w1 ⟨rfl, hb1⟩; have b1 := HBW.trans (hb1.mono HBW.size); have b1' := b1.alloc b1.size (.cells #[.float .f64 pa.1, .float .f64 pa.2] 52))
    | (go_at_call 48; with_reducible refine (HB.out _ b1').mono ?_; rintro r w2 ⟨rfl, hb2⟩; have b2 := b1'.trans (hb2.mono b1'.size); have b2' := b2.alloc b2.size (.cells #[.float .f64 pb.1, .float .f64 pb.2] 52); have x0 := cell_al (cell_keep (new2 w1 (.float .f64 pa.1) (.float .f64 pa.2) 52).1 hb2) (.cells #[.float .f64 pb.1, .float .f64 pb.2] 52); have x1 := cell_al (cell_keep (new2 w1 (.float .f64 pa.1) (.float .f64 pa.2) 52).2 hb2) (.cells #[.float .f64 pb.1, .float .f64 pb.2] 52); have Y6 := ((((HR6.below hb1).al (.cells #[.float .f64 pa.1, .float .f64 pa.2] 52)).below hb2).al (.cells #[.float .f64 pb.1, .float .f64 pb.2] 52)); have Y7 := ((((HR7.below hb1).al (.cells #[.float .f64 pa.1, .float .f64 pa.2] 52)).below hb2).al (.cells #[.float .f64 pb.1, .float .f64 pb.2] 52)); have y67 := And.intro Y6.c2 Y7.c2; have z0 := Y6.fz 0; have z1 := Y6.fz 1; have z2 := Y7.fz 0; have z3 := Y7.fz 1; have y0 := new2 w2 (.float .f64 pb.1) (.float .f64 pb.2) 52))
  have hs1 : w.heap.size + 1 < w1.heap.size := (HR7.below hb1).lt
  have hs2 : w1.heap.size < w2.heap.size := (BoxN.new w1 #[.float .f64 pa.1, .float .f64 pa.2] 52).below hb2 |>.lt
  have m1 : ¬w.heap.size = w1.heap.size := by omega
  have m2 : ¬w.heap.size + 1 = w1.heap.size := by omega
  have m3 : ¬w.heap.size = w2.heap.size := by omega
  have m4 : ¬w.heap.size + 1 = w2.heap.size := by omega
  have m5 : ¬w.heap.size = w.heap.size + 1 := by omega
  have HFin := Lib.hid b2'
  clear b1 b1' b2 b2' hs1 hs2 hb1 hb2 HA HB HBW e1 HR6 HR7
  generalize w2.alloc (.cells #[.float .f64 pb.1, .float .f64 pb.2] 52) = W at *
  go_region
  have f6 := (((Y6.put2 (.float .f64 pa.1) (.float .f64 pa.2)).far (p := ⟨w.heap.size + 1, 0, none⟩) m5 (.float .f64 pb.1)).far (p := ⟨w.heap.size + 1, 1, none⟩) m5 (.float .f64 pb.2)).c2
  have f7 := (((Y7.far (p := ⟨w.heap.size, 0, none⟩) (fun e => m5 e.symm) (.float .f64 pa.1)).far (p := ⟨w.heap.size, 1, none⟩) (fun e => m5 e.symm) (.float .f64 pa.2)).put2 (.float .f64 pb.1) (.float .f64 pb.2)).c2
  clear y67 x0 x1 y0
  go_wp2
  refine bodyPost_ret (by simp [results, Tryz.results115, go_sem, f6.1, f6.2, f7.1, f7.2]; try rfl) rfl ?_
  exact ⟨rfl, ((((HFin.out.setCell (p := ⟨w.heap.size, 0, none⟩) (Nat.le_refl _) _).setCell (p := ⟨w.heap.size, 1, none⟩) (Nat.le_refl _) _).setCell (p := ⟨w.heap.size + 1, 0, none⟩) (Nat.le_succ _) _).setCell (p := ⟨w.heap.size + 1, 1, none⟩) (Nat.le_succ _) _).drew⟩

set_option maxRecDepth 100000 in
set_option maxHeartbeats 1000000 in
theorem del_none (bm bx by_ : Nat) (w : World) :
    Calls Tryz.prog 116 #[.slice none 0 0, .func (.func 117) #[] #[.pointer (some ⟨bm, 0, none⟩), .pointer (some ⟨bx, 0, none⟩), .pointer (some ⟨by_, 0, none⟩)]] w fun r w' => r = .returned (.slice none 0 0) ∧ Below w.heap.size w w' := by
  have HI : Hid (∀ w, Calls Tryz.prog 163 #[.slice none 0 0, .func (.func 117) #[] #[.pointer (some ⟨bm, 0, none⟩), .pointer (some ⟨bx, 0, none⟩), .pointer (some ⟨by_, 0, none⟩)]] w fun r w' => r = .returned (.int .i64 (-1)) ∧ w' = w) := by
    intro w
    go_enter Tryz.func163, Tryz.ntmps163
    go_wp2
    go_loop [8] (fun s8 => s8 = .int .i64 0) (fun _ => 0)
    case atStart => rfl
    case round =>
      subst hrel
      go_wp2
      go_ret
      exact ⟨rfl, rfl⟩
  go_enter Tryz.func116, Tryz.ntmps116
  go_wp2_with (go_at_call 163; with_reducible refine (HI.out _).mono ?_; rintro r w1 ⟨rfl, rfl⟩)
  go_ret
  exact ⟨rfl, Below.refl _ _⟩

theorem own_lower {base base' e size n : Nat} {w : World} {v : Value} {xs : List Value} (h : w.ownsRow base e size v n xs) (hb : base' ≤ base) : w.ownsRow base' e size v n xs :=
  ⟨h.1, h.2.imp id fun ⟨g, cap, cur, h1, h2, h3⟩ => ⟨g, cap, cur, h1, Nat.le_trans hb h2, h3⟩⟩
theorem delV_walk {base : Nat} {w : World} {v : Value} {L : List (Int × Int)} {T : TypeId} (ho : w.ownsRow base T 2 v L.length (cellsK encP L)) (hbase : base ≤ w.heap.size) (keep : Int × Int → Bool) (bm bx by_ : Nat) (hlen : L.length ≤ 4294967296)
    (hcl : ∀ W e, Below base w W → Calls Tryz.prog 117 #[.agg #[.int .i64 e.1, .int .i64 e.2], .pointer (some ⟨bm, 0, none⟩), .pointer (some ⟨bx, 0, none⟩), .pointer (some ⟨by_, 0, none⟩)] W fun r w' => r = .returned (.bool (!keep e)) ∧ Below W.heap.size W w') :
    Calls Tryz.prog 116 #[v, .func (.func 117) #[] #[.pointer (some ⟨bm, 0, none⟩), .pointer (some ⟨bx, 0, none⟩), .pointer (some ⟨by_, 0, none⟩)]] w fun r w' =>
      ∃ ad cap', r = .returned (.slice ad (L.filter keep).length cap') ∧ Hid (KCells encP w' ad (L.filter keep)) ∧ Hid (Below base w w') := by
  rcases ho.2 with ⟨rfl, h2⟩ | ⟨g, cap, cur, rfl, hb, hh, hn, hm, hs, ht⟩
  · have hL : L = [] := List.length_eq_zero_iff.1 h2
    subst hL
    exact (del_none bm bx by_ w).mono fun r w' ⟨he, hb⟩ => ⟨none, 0, he, fun h => absurd h (by simp), hb.mono hbase⟩
  · refine (delP_walk L g cap keep bm bx by_ hlen hn w (PRow.of_own ho) (fun W e hb' => hcl W e (hb'.mono hb))).mono ?_
    rintro r w' ⟨cap', rfl, hp, hb'⟩
    exact ⟨_, cap', rfl, hp.out.of_cells, hb'.out.mono hb⟩

theorem ends_boxes {w w1 : World} {mb : Nat} {X Y : Pt} (hb : Below (w.alloc (.cells #[.pointer (some ⟨mb, 0, none⟩)] 29)).heap.size (w.alloc (.cells #[.pointer (some ⟨mb, 0, none⟩)] 29)) w1) :
    ∀ W, W = (w1.alloc (.cells #[.float .f64 X.1, .float .f64 X.2] 52)).alloc (.cells #[.float .f64 Y.1, .float .f64 Y.2] 52) →
      BoxN 29 W w.heap.size #[.pointer (some ⟨mb, 0, none⟩)] ∧ BoxN 52 W w1.heap.size #[.float .f64 X.1, .float .f64 X.2] ∧ BoxN 52 W (w1.heap.size + 1) #[.float .f64 Y.1, .float .f64 Y.2] ∧ Below w.heap.size w W := by
  rintro W rfl
  have h0 : Below w.heap.size w w1 := ((Below.refl _ w).alloc (Nat.le_refl _) _).trans (hb.mono (by simp))
  have e1 : (w1.alloc (.cells #[.float .f64 X.1, .float .f64 X.2] 52)).heap.size = w1.heap.size + 1 := by simp
  refine ⟨(((BoxN.new w #[.pointer (some ⟨mb, 0, none⟩)] 29).below hb).al _).al _, (BoxN.new w1 _ _).al _, ?_, (h0.alloc h0.size _).alloc (Nat.le_trans h0.size (by simp)) _⟩
  have := BoxN.new (w1.alloc (.cells #[.float .f64 X.1, .float .f64 X.2] 52)) #[.float .f64 Y.1, .float .f64 Y.2] 52
  rwa [e1] at this
theorem BoxN.c1 {T : TypeId} {W : World} {b : Nat} {x : Value} (h : BoxN T W b #[x]) : W.cell? ⟨b, 0, none⟩ = some x := h.c 0

set_option maxRecDepth 100000 in
set_option maxHeartbeats 4000000 in
theorem across_walk {w : World} {mb n : Nat} {M : MeshM} {F : Nat → Prop} (h : MeshAt w mb n M F) (h64 : ∀ p, p ∈ M.P → pt64 p) (hs : Sound M) (hl : M.P.length ≤ 1048576) (a b : Int) (ha : hasM M a = true) (hb : hasM M b = true) (hshort : (edgeL M.ap M.P.length).length ≤ 4294967296) :
    Calls Tryz.prog 54 #[.pointer (some ⟨mb, 0, none⟩), .int .i64 a, .int .i64 b] w fun r w' => ∃ ad cap, r = .returned (.tuple #[.slice ad (acrossL M a b).length cap, .int .i64 0]) ∧ Hid (KCells encP w' ad (acrossL M a b)) ∧ Hid (Below w.heap.size w w') := by
  have HE := Lib.hid (fun W (hb' : Below w.heap.size w W) => ends_walk (h.below hb') a b ha hb)
  have HED := Lib.hid (fun W (hb' : Below w.heap.size w W) => edges_walk (h.below hb') hs.win hs.rot hl)
  have H1 : Hid (∀ W bm bx by_ i j, Below w.heap.size w W → W.cell? ⟨bm, 0, none⟩ = some (.pointer (some ⟨mb, 0, none⟩)) → (W.cell? ⟨bx, 0, none⟩ = some (.float .f64 (ptAt M a).1) ∧ W.cell? ⟨bx, 1, none⟩ = some (.float .f64 (ptAt M a).2)) → (W.cell? ⟨by_, 0, none⟩ = some (.float .f64 (ptAt M b).1) ∧ W.cell? ⟨by_, 1, none⟩ = some (.float .f64 (ptAt M b).2)) →
      Calls Tryz.prog 117 #[.agg #[.int .i64 i, .int .i64 j], .pointer (some ⟨bm, 0, none⟩), .pointer (some ⟨bx, 0, none⟩), .pointer (some ⟨by_, 0, none⟩)] W fun r w' => r = .returned (.bool (!crossB (ptAt M a) (ptAt M b) (ptAt M i) (ptAt M j))) ∧ Below W.heap.size W w') :=
    fun W bm bx by_ i j hb' c1 c2 c3 => across1_walk (h.below hb') h64 (ptAt M a) (ptAt M b) (ptAt_64 h64 a) (ptAt_64 h64 b) i j c1 c2 c3
  have HSH := Lib.hid hshort
  unfold acrossL
  clear h h64 hs hl ha hb hshort
  unfold V at *
  generalize edgeL M.ap M.P.length = L at *
  obtain ⟨K, hK⟩ : ∃ K : Int × Int → Bool, K = fun e => crossB (ptAt M a) (ptAt M b) (ptAt M e.1) (ptAt M e.2) := ⟨_, rfl⟩
  rw [← hK]
  generalize ptAt M a = X at *
  generalize ptAt M b = Y at *
  have HK := Lib.hid hK
  clear hK
  have b0 : Below w.heap.size w (w.alloc (.cells #[.pointer (some ⟨mb, 0, none⟩)] 29)) := (Below.refl _ _).alloc (Nat.le_refl _) _
  go_enter Tryz.func54, Tryz.ntmps54
  go_wp2_with (first
    | (go_at_call 115; with_reducible refine (HE.out _ b0).mono ?_; rintro r w1 ⟨rfl, hb1⟩; obtain ⟨B1, B2, B3, B4⟩ := ends_boxes (X := X) (Y := Y) hb1 _ rfl; have c1 := B1.c1)
    | (go_at_call 78; with_reducible refine (HED.out _ B4).mono ?_; rintro r w2 ⟨v, rfl, ho, hb2⟩; have B5 := Lib.hid (B4.trans (hb2.mono B4.size)); have D1 := Lib.hid (B1.below hb2); have D2 := Lib.hid (B2.below hb2); have D3 := Lib.hid (B3.below hb2); have L1 := Lib.hid B1.lt; have L2 := Lib.hid B2.lt; have L3 := Lib.hid B3.lt; have LS := Lib.hid hb2.size; have LB := Lib.hid B4.size; have HO := Lib.hid (own_lower ho (Nat.le_succ _)); clear ho))
  have HD : Hid (Calls Tryz.prog 116 #[v, .func (.func 117) #[] #[.pointer (some ⟨w.heap.size, 0, none⟩), .pointer (some ⟨w1.heap.size, 0, none⟩), .pointer (some ⟨w1.heap.size + 1, 0, none⟩)]] w2 fun r w' =>
      ∃ ad cap', r = .returned (.slice ad (L.filter K).length cap') ∧ Hid (KCells encP w' ad (L.filter K)) ∧ Hid (Below w.heap.size w w')) := by
    refine (delV_walk HO.out LS.out K _ _ _ HSH.out (fun W e hbW => ?_)).mono ?_
    · rw [HK.out]
      exact H1.out W _ _ _ e.1 e.2 (B5.out.trans (hbW.mono LB.out)) (D1.out.low hbW L1.out).c1 (D2.out.low hbW L2.out).c2 (D3.out.low hbW L3.out).c2
    · rintro r w' ⟨ad, cap, rfl, hk, hb⟩
      exact ⟨ad, cap, rfl, hk, B5.out.trans (hb.out.mono LB.out)⟩
  go_wp2_with (go_at_call 116; refine HD.out.mono ?_; rintro r w3 ⟨ad, cap, rfl, hk3, hb3⟩)
  go_ret2
  exact ⟨ad, cap, rfl, hk3, hb3⟩

end Go.Proofs.YtdoaniccefdkaaaGreatDoor

/- orient.On where a point is beside the line. -/
namespace Go.Proofs.YtdoaniccefdkaaaGreatDoor
open Go.RowKit Tvf Go.Maps Go.WideMaps

theorem signI_bad {a b c : Pt} (h : [a, b, c].all ptOK = false) : signI a b c = 0 := by
  unfold signI
  exact if_neg (by rw [h]; exact Bool.false_ne_true)

set_option maxRecDepth 100000 in
set_option maxHeartbeats 1000000 in
theorem on_gen (ax ay bx bY cx cy : Nat) (s : Int) (hs : (s == 0) = false)
    (hM : ∀ w blk, w.heap[blk]? = some (.cells #[.float .f64 ax, .float .f64 ay, .float .f64 bx, .float .f64 bY, .float .f64 cx, .float .f64 cy] 52 (0, 0)) →
      Calls Tryz.prog 148 #[.slice (some ⟨blk, 0, none⟩) 3 3] w fun r w' => r = .returned (.bool true) ∧ Below w.heap.size w w')
    (hS : ∀ w, Calls Tryz.prog 90 #[.agg #[.float .f64 ax, .float .f64 ay], .agg #[.float .f64 bx, .float .f64 bY], .agg #[.float .f64 cx, .float .f64 cy]] w fun r w' => r = .returned (.int .i64 s) ∧ Below w.heap.size w w') (w : World) :
    Calls Tryz.prog 119 #[.agg #[.float .f64 ax, .float .f64 ay], .agg #[.float .f64 bx, .float .f64 bY], .agg #[.float .f64 cx, .float .f64 cy]] w fun r w' => r = .returned (.bool false) ∧ Below w.heap.size w w' := by
  have HM := Lib.hid hM
  have HS := Lib.hid hS
  have HB := Lib.hid (at_boxes w #[.float .f64 ax, .float .f64 ay] #[.float .f64 bx, .float .f64 bY] #[.float .f64 cx, .float .f64 cy] 52 52 52)
  have e3 : (((w.alloc (.cells #[.float .f64 ax, .float .f64 ay] 52)).alloc (.cells #[.float .f64 bx, .float .f64 bY] 52)).alloc (.cells #[.float .f64 cx, .float .f64 cy] 52)).heap.size = w.heap.size + 1 + 1 + 1 := by simp
  have HN := BoxN.new (((w.alloc (.cells #[.float .f64 ax, .float .f64 ay] 52)).alloc (.cells #[.float .f64 bx, .float .f64 bY] 52)).alloc (.cells #[.float .f64 cx, .float .f64 cy] 52)) #[.float .f64 ax, .float .f64 ay, .float .f64 bx, .float .f64 bY, .float .f64 cx, .float .f64 cy] 52
  rw [e3] at HN
  have HNN := Lib.hid HN
  clear hM hS e3 HN
  go_enter Tryz.func119, Tryz.ntmps119
  go_wp2_with (first
    | (go_at_call 148; refine (HM.out _ _ HNN.out).mono ?_; rintro r w2 ⟨rfl, hb2⟩; obtain ⟨B1, B2, B3, B4⟩ := HB.out; have c0 := ((B1.al _).below hb2).c2; have d0 := ((B2.al _).below hb2).c2; have e0 := ((B3.al _).below hb2).c2; have b5 := (B4.alloc B4.size _).trans (hb2.mono (Nat.le_trans B4.size (by simp))))
    | (go_at_call 90; with_reducible refine (HS.out _).mono ?_; rintro r w3 ⟨rfl, hb3⟩))
  go_ret
  exact ⟨rfl, b5.trans (hb3.mono b5.size)⟩

theorem on_no (a b p : Pt) (ha : pt64 a) (hb : pt64 b) (hp : pt64 p) (hs : signI a b p ≠ 0) (w : World) :
    Calls Tryz.prog 119 #[V a, V b, V p] w fun r w' => r = .returned (.bool false) ∧ Below w.heap.size w w' := by
  have h64 : ∀ t, t ∈ [a, b, p] → pt64 t := by
    intro t ht
    simp only [List.mem_cons, List.not_mem_nil, or_false] at ht
    rcases ht with rfl | rfl | rfl <;> assumption
  have hk : [a, b, p].all ptOK = true := by
    cases e : [a, b, p].all ptOK with
    | true => rfl
    | false => exact absurd (signI_bad e) hs
  have hS := fun W => orient_sign a b p h64 W
  have hM := fun w blk hb => may3 a b p h64 true hk w blk hb
  generalize signI a b p = s at *
  obtain ⟨ax, ay⟩ := a
  obtain ⟨bx, bY⟩ := b
  obtain ⟨cx, cy⟩ := p
  exact on_gen ax ay bx bY cx cy s (by simpa using hs) hM hS w

end Go.Proofs.YtdoaniccefdkaaaGreatDoor

/- slices.SortStableFunc at nothing; walk.Through where nothing lies in the way. -/
namespace Go.Proofs.YtdoaniccefdkaaaGreatDoor
open Go.RowKit Tvf Go.Maps Go.WideMaps

set_option maxRecDepth 100000 in
set_option maxHeartbeats 1000000 in
theorem insertion_nil (f : Value) (w : World) :
    Calls Tryz.prog 218 #[.slice none 0 0, .int .i64 0, .int .i64 0, f] w fun r w' => r = .returned (.tuple #[]) ∧ w' = w := by
  go_enter Tryz.func218, Tryz.ntmps218
  go_wp2
  go_loop [8] (fun s8 => s8 = .int .i64 1) (fun _ => 0)
  case atStart => rfl
  case round =>
    subst hrel
    go_wp2
    go_returns
    exact ⟨rfl, rfl⟩

set_option maxRecDepth 100000 in
set_option maxHeartbeats 1000000 in
theorem stable_nil (f : Value) (w : World) :
    Calls Tryz.prog 168 #[.slice none 0 0, .int .i64 0, f] w fun r w' => r = .returned (.tuple #[]) ∧ w' = w := by
  have HI := Lib.hid (insertion_nil f)
  go_enter Tryz.func168, Tryz.ntmps168
  go_wp2
  go_loop [7, 8] (fun s7 s8 => s7 = .int .i64 0 ∧ s8 = .int .i64 20) (fun _ _ => 0)
  case atStart => exact ⟨rfl, rfl⟩
  case round =>
    obtain ⟨rfl, rfl⟩ := hrel
    go_wp2_with (go_at_call 218; with_reducible refine (HI.out _).mono ?_; rintro r w1 ⟨rfl, rfl⟩)
    go_loop [6, 7, 8, 9] (fun s6 _ _ _ => s6 = .int .i64 20) (fun _ _ _ _ => 0)
    case atStart => rfl
    case round =>
      subst hrel
      go_wp2
      go_returns
      exact ⟨rfl, rfl⟩

set_option maxRecDepth 100000 in
set_option maxHeartbeats 1000000 in
theorem sortStable_nil (f : Value) (w : World) :
    Calls Tryz.prog 123 #[.slice none 0 0, f] w fun r w' => r = .returned (.tuple #[]) ∧ w' = w := by
  have HI := Lib.hid (stable_nil f)
  go_enter Tryz.func123, Tryz.ntmps123
  go_wp2_with (go_at_call 168; with_reducible refine (HI.out _).mono ?_; rintro r w1 ⟨rfl, rfl⟩)
  go_returns
  exact ⟨rfl, rfl⟩

theorem sort_nil (w : World) : Calls Tryz.prog 121 #[.slice none 0 0] w fun r w' => r = .returned (.tuple #[]) ∧ Below w.heap.size w w' :=
  (sortInt_walk (zs := []) (World.ownsInts_nil w w.heap.size _ _) (by simp)).mono fun r w' ⟨he, _, hg⟩ => ⟨he, (Below.refl _ w).grown hg (Nat.le_refl _) (fun j hj => by cases hj)⟩
theorem compact_nil (w : World) : Calls Tryz.prog 122 #[.slice none 0 0] w fun r w' => r = .returned (.slice none 0 0) ∧ Below w.heap.size w w' :=
  (compactInt_walk (zs := []) (World.ownsInts_nil w w.heap.size _ _) (by intro z hz; rw [show Lib.compact ([] : List Int) = [] from rfl] at hz; cases hz) (by simp)).mono fun r w' ⟨v, he, ho, hg, hv⟩ => by
    refine ⟨?_, (Below.refl _ w).grown hg (Nat.le_refl _) (fun j hj => by cases hj)⟩
    rcases ho.1.2 with ⟨h1, _⟩ | ⟨g, cap, cur, rfl, _⟩
    · rw [he, h1]
    · cases hv

/-- where nothing lies in the way -/
def ClearP (M : MeshM) (a b : Int) : Prop := ∀ t, t ∈ trisL M.ap M.P.length → ∀ c, c ∈ [t.1, t.2.1, t.2.2] → c = a ∨ c = b ∨ signI (ptAt M a) (ptAt M b) (ptAt M c) ≠ 0

set_option maxRecDepth 100000 in
set_option maxHeartbeats 8000000 in
theorem through_clear {w : World} {mb n : Nat} {M : MeshM} {F : Nat → Prop} (h : MeshAt w mb n M F) (h64 : ∀ p, p ∈ M.P → pt64 p) (hs : Sound M) (hl : M.P.length ≤ 1048576) (a b : Int) (ha : hasM M a = true) (hb : hasM M b = true) (hclr : ClearP M a b) :
    Calls Tryz.prog 55 #[.pointer (some ⟨mb, 0, none⟩), .int .i64 a, .int .i64 b] w fun r w' => r = .returned (.tuple #[.slice none 0 0, .int .i64 0]) ∧ Below w.heap.size w w' := by
  have HE := Lib.hid (fun W (hb' : Below w.heap.size w W) => ends_walk (h.below hb') a b ha hb)
  have HTR := Lib.hid (fun W (hb : Below w.heap.size w W) => tris_walk (h.below hb) hs.win hl)
  have HP := Lib.hid (fun W (hb' : Below w.heap.size w W) c => point_walk (h.below hb') c)
  have HON := Lib.hid (fun c hs W => on_no (ptAt M a) (ptAt M b) (ptAt M c) (ptAt_64 h64 a) (ptAt_64 h64 b) (ptAt_64 h64 c) hs W)
  have HCL : Hid (∀ t, t ∈ trisL M.ap M.P.length → ∀ c, c ∈ [t.1, t.2.1, t.2.2] → c = a ∨ c = b ∨ signI (ptAt M a) (ptAt M b) (ptAt M c) ≠ 0) := hclr
  have HSO := Lib.hid sort_nil
  have HCO := Lib.hid compact_nil
  have HST := Lib.hid sortStable_nil
  clear h h64 hs ha hb hclr
  have HLN : Hid ((trisL M.ap M.P.length).length ≤ 1099511627776) := by
    have := trisL_le M.ap M.P.length
    have h3 : M.P.length * M.P.length ≤ 1048576 * 1048576 := Nat.mul_le_mul hl hl
    exact Nat.le_trans this (by omega)
  clear hl
  unfold V at *
  generalize trisL M.ap M.P.length = L at *
  generalize ptAt M a = X at *
  generalize ptAt M b = Y at *
  have b0 : Below w.heap.size w (w.alloc (.cells #[.pointer (some ⟨mb, 0, none⟩)] 29)) := (Below.refl _ _).alloc (Nat.le_refl _) _
  go_enter Tryz.func55, Tryz.ntmps55
  go_wp2_with (first
    | (go_at_call 115; with_reducible refine (HE.out _ b0).mono ?_; rintro r w1 ⟨rfl, hb1⟩; obtain ⟨B1, B2, B3, B4⟩ := ends_boxes (X := X) (Y := Y) hb1 _ rfl; have c1 := B1.c1)
    | (go_at_call 18; with_reducible refine (HTR.out _ B4).mono ?_; rintro r w2 ⟨v, rfl, ho, hb2⟩; obtain ⟨ad, cap, rfl, hkc, hg⟩ := owns_kcells ho; have HB2w := Lib.hid (B4.trans (hb2.mono B4.size)); have HBM := Lib.hid (B1.below hb2); have HBX := Lib.hid (B2.below hb2); have HBY := Lib.hid (B3.below hb2); have HK2 := Lib.hid hkc; clear ho hkc hg))
  have HSX : Hid (w1.heap.size < w2.heap.size ∧ w1.heap.size + 1 < w2.heap.size) := ⟨HBX.out.lt, HBY.out.lt⟩
  clear hb1 hb2 B1 B2 B3 B4 c1 b0
  go_loopw [11, 32] (fun s11 s32 wr => ∃ k : Nat, k ≤ L.length ∧ s11 = .slice none 0 0 ∧ s32 = .int .i64 k ∧ Hid (Below w2.heap.size w2 wr)) (fun _ s32 _ => L.length - (intOf s32).toNat)
  case atStart => exact ⟨0, Nat.zero_le _, rfl, rfl, Below.refl _ _⟩
  case round =>
    obtain ⟨k, hk, rfl, rfl, HBr⟩ := hrel
    have c1 := (HBM.out.below HBr.out).c1
    by_cases hlt : k < L.length
    · have HKL := Lib.hid hlt
      obtain ⟨g, rfl, hgl, t0, t1, t2⟩ := (HK2.out.below HBr.out).tri hlt
      have HCk := Lib.hid (HCL.out (L.getD k (0, 0, 0)) (by rw [List.getD_eq_getElem?_getD, List.getElem?_eq_getElem hlt]; exact List.getElem_mem hlt))
      generalize L.getD k (0, 0, 0) = t at HCk t0 t1 t2
      obtain ⟨ta, tb, tc⟩ := t
      dsimp only at t0 t1 t2
      have h0 := Lib.hid (HCk.out ta (by simp))
      have h1 := Lib.hid (HCk.out tb (by simp))
      have h2 := Lib.hid (HCk.out tc (by simp))
      clear hgl HCk
      have HBs : Hid (Below w2.heap.size w2 (wr.alloc (.cells #[.int .i64 ta, .int .i64 tb, .int .i64 tc] 45))) := HBr.out.alloc HBr.out.size _
      go_wp2
      clear c1 t0 t1 t2
      go_loopw [11, 37] (fun s11 s37 wi => ∃ (j : Nat) (z : Int), z = j ∧ j ≤ 3 ∧ s11 = .slice none 0 0 ∧ s37 = .int .i64 z ∧ Hid (Below w2.heap.size w2 wi)) (fun _ s37 _ => (3 - intOf s37).toNat)
      case atStart => exact ⟨0, 0, rfl, by omega, rfl, rfl, HBs.out⟩
      case round =>
        rename World => wi
        obtain ⟨j, z, hz, hj, rfl, rfl, HB2i⟩ := hrel
        have HB2 := HB2i
        have HW2 := Lib.hid (HB2w.out.trans (HB2.out.mono HB2w.out.size))
        have c1 := (HBM.out.below HB2.out).c1
        have HT2 : Hid (w2.heap.size ≤ wi.heap.size) := HB2.out.size
        have h4 : j = 0 ∨ j = 1 ∨ j = 2 ∨ j = 3 := by omega
        clear hj
        rcases h4 with rfl | rfl | rfl | rfl
        · obtain rfl : z = 0 := by omega
          clear hz
          have ix := idxT_0 (.int .i64 ta) (.int .i64 tb) (.int .i64 tc)
          have HPc := Lib.hid (fun W hb => HP.out W hb ta)
          have hcx := h0.out
          have HOc := Lib.hid (fun hs W => HON.out ta hs W)
          generalize ptAt M ta = pc at HPc HOc hcx
          generalize hasM M ta = kc at HPc
          obtain ⟨cx, cy⟩ := pc
          dsimp only at HPc HOc
          by_cases hca : ta = a
          · have hd1 : (ta != a) = false := by simp [hca]
            clear hcx hca HOc
            go_wp2_with (go_at_call 48; with_reducible refine (HPc.out _ HW2.out).mono ?_; rintro r w5 ⟨rfl, hb5⟩; have B5 := Lib.hid ((HB2.out.trans (hb5.mono HT2.out)).alloc (Nat.le_trans HT2.out hb5.size) (.cells #[.float .f64 cx, .float .f64 cy] 52)))
            go_roundw
            case rel => exact ⟨0 + 1, 0 + 1, by omega, by omega, rfl, rfl, B5.out⟩
            case measure => decide
          · have hd1 : (ta != a) = true := by simpa using hca
            by_cases hcb : ta = b
            · have hd2 : (ta != b) = false := by simp [hcb]
              clear hcx hca hcb HOc
              go_wp2_with (go_at_call 48; with_reducible refine (HPc.out _ HW2.out).mono ?_; rintro r w5 ⟨rfl, hb5⟩; have B5 := Lib.hid ((HB2.out.trans (hb5.mono HT2.out)).alloc (Nat.le_trans HT2.out hb5.size) (.cells #[.float .f64 cx, .float .f64 cy] 52)))
              go_roundw
              case rel => exact ⟨0 + 1, 0 + 1, by omega, by omega, rfl, rfl, B5.out⟩
              case measure => decide
            · have hd2 : (ta != b) = true := by simpa using hcb
              have hsg := (hcx.resolve_left hca).resolve_left hcb
              have HOd := Lib.hid (fun W => HOc.out hsg W)
              clear hcx hca hcb HOc hsg
              go_wp2_with (first
                | (go_at_call 48; with_reducible refine (HPc.out _ HW2.out).mono ?_; rintro r w5 ⟨rfl, hb5⟩; have B5 := Lib.hid ((HB2.out.trans (hb5.mono HT2.out)).alloc (Nat.le_trans HT2.out hb5.size) (.cells #[.float .f64 cx, .float .f64 cy] 52)); have u0 := (HBX.out.low B5.out HSX.out.1).c2; have u1 := (HBY.out.low B5.out HSX.out.2).c2)
                | (go_at_call 119; with_reducible refine (HOd.out _).mono ?_; rintro r w6 ⟨rfl, hb6⟩; have B6 := Lib.hid (B5.out.trans (hb6.mono (Nat.le_trans HT2.out (Nat.le_trans hb5.size (by simp)))))))
              go_roundw
              case rel => exact ⟨0 + 1, 0 + 1, by omega, by omega, rfl, rfl, B6.out⟩
              case measure => decide
        · obtain rfl : z = 1 := by omega
          clear hz
          have ix := idxT_1 (.int .i64 ta) (.int .i64 tb) (.int .i64 tc)
          have HPc := Lib.hid (fun W hb => HP.out W hb tb)
          have hcx := h1.out
          have HOc := Lib.hid (fun hs W => HON.out tb hs W)
          generalize ptAt M tb = pc at HPc HOc hcx
          generalize hasM M tb = kc at HPc
          obtain ⟨cx, cy⟩ := pc
          dsimp only at HPc HOc
          by_cases hca : tb = a
          · have hd1 : (tb != a) = false := by simp [hca]
            clear hcx hca HOc
            go_wp2_with (go_at_call 48; with_reducible refine (HPc.out _ HW2.out).mono ?_; rintro r w5 ⟨rfl, hb5⟩; have B5 := Lib.hid ((HB2.out.trans (hb5.mono HT2.out)).alloc (Nat.le_trans HT2.out hb5.size) (.cells #[.float .f64 cx, .float .f64 cy] 52)))
            go_roundw
            case rel => exact ⟨1 + 1, 1 + 1, by omega, by omega, rfl, rfl, B5.out⟩
            case measure => decide
          · have hd1 : (tb != a) = true := by simpa using hca
            by_cases hcb : tb = b
            · have hd2 : (tb != b) = false := by simp [hcb]
              clear hcx hca hcb HOc
              go_wp2_with (go_at_call 48; with_reducible refine (HPc.out _ HW2.out).mono ?_; rintro r w5 ⟨rfl, hb5⟩; have B5 := Lib.hid ((HB2.out.trans (hb5.mono HT2.out)).alloc (Nat.le_trans HT2.out hb5.size) (.cells #[.float .f64 cx, .float .f64 cy] 52)))
              go_roundw
              case rel => exact ⟨1 + 1, 1 + 1, by omega, by omega, rfl, rfl, B5.out⟩
              case measure => decide
            · have hd2 : (tb != b) = true := by simpa using hcb
              have hsg := (hcx.resolve_left hca).resolve_left hcb
              have HOd := Lib.hid (fun W => HOc.out hsg W)
              clear hcx hca hcb HOc hsg
              go_wp2_with (first
                | (go_at_call 48; with_reducible refine (HPc.out _ HW2.out).mono ?_; rintro r w5 ⟨rfl, hb5⟩; have B5 := Lib.hid ((HB2.out.trans (hb5.mono HT2.out)).alloc (Nat.le_trans HT2.out hb5.size) (.cells #[.float .f64 cx, .float .f64 cy] 52)); have u0 := (HBX.out.low B5.out HSX.out.1).c2; have u1 := (HBY.out.low B5.out HSX.out.2).c2)
                | (go_at_call 119; with_reducible refine (HOd.out _).mono ?_; rintro r w6 ⟨rfl, hb6⟩; have B6 := Lib.hid (B5.out.trans (hb6.mono (Nat.le_trans HT2.out (Nat.le_trans hb5.size (by simp)))))))
              go_roundw
              case rel => exact ⟨1 + 1, 1 + 1, by omega, by omega, rfl, rfl, B6.out⟩
              case measure => decide
        · obtain rfl : z = 2 := by omega
          clear hz
          have ix := idxT_2 (.int .i64 ta) (.int .i64 tb) (.int .i64 tc)
          have HPc := Lib.hid (fun W hb => HP.out W hb tc)
          have hcx := h2.out
          have HOc := Lib.hid (fun hs W => HON.out tc hs W)
          generalize ptAt M tc = pc at HPc HOc hcx
          generalize hasM M tc = kc at HPc
          obtain ⟨cx, cy⟩ := pc
          dsimp only at HPc HOc
          by_cases hca : tc = a
          · have hd1 : (tc != a) = false := by simp [hca]
            clear hcx hca HOc
            go_wp2_with (go_at_call 48; with_reducible refine (HPc.out _ HW2.out).mono ?_; rintro r w5 ⟨rfl, hb5⟩; have B5 := Lib.hid ((HB2.out.trans (hb5.mono HT2.out)).alloc (Nat.le_trans HT2.out hb5.size) (.cells #[.float .f64 cx, .float .f64 cy] 52)))
            go_roundw
            case rel => exact ⟨2 + 1, 2 + 1, by omega, by omega, rfl, rfl, B5.out⟩
            case measure => decide
          · have hd1 : (tc != a) = true := by simpa using hca
            by_cases hcb : tc = b
            · have hd2 : (tc != b) = false := by simp [hcb]
              clear hcx hca hcb HOc
              go_wp2_with (go_at_call 48; with_reducible refine (HPc.out _ HW2.out).mono ?_; rintro r w5 ⟨rfl, hb5⟩; have B5 := Lib.hid ((HB2.out.trans (hb5.mono HT2.out)).alloc (Nat.le_trans HT2.out hb5.size) (.cells #[.float .f64 cx, .float .f64 cy] 52)))
              go_roundw
              case rel => exact ⟨2 + 1, 2 + 1, by omega, by omega, rfl, rfl, B5.out⟩
              case measure => decide
            · have hd2 : (tc != b) = true := by simpa using hcb
              have hsg := (hcx.resolve_left hca).resolve_left hcb
              have HOd := Lib.hid (fun W => HOc.out hsg W)
              clear hcx hca hcb HOc hsg
              go_wp2_with (first
                | (go_at_call 48; with_reducible refine (HPc.out _ HW2.out).mono ?_; rintro r w5 ⟨rfl, hb5⟩; have B5 := Lib.hid ((HB2.out.trans (hb5.mono HT2.out)).alloc (Nat.le_trans HT2.out hb5.size) (.cells #[.float .f64 cx, .float .f64 cy] 52)); have u0 := (HBX.out.low B5.out HSX.out.1).c2; have u1 := (HBY.out.low B5.out HSX.out.2).c2)
                | (go_at_call 119; with_reducible refine (HOd.out _).mono ?_; rintro r w6 ⟨rfl, hb6⟩; have B6 := Lib.hid (B5.out.trans (hb6.mono (Nat.le_trans HT2.out (Nat.le_trans hb5.size (by simp)))))))
              go_roundw
              case rel => exact ⟨2 + 1, 2 + 1, by omega, by omega, rfl, rfl, B6.out⟩
              case measure => decide
        · obtain rfl : z = 3 := by omega
          clear hz
          go_wp2
          go_roundw
          case rel => exact ⟨k + 1, by have := HKL.out; omega, rfl, by rw [wrapS (by have := HLN.out; have := HKL.out; omega)], HB2.out⟩
          case measure => rw [wrapS (by have := HLN.out; have := HKL.out; omega)]; have := HKL.out; simp only [intOf]; omega
    · have hkl : k = L.length := by omega
      subst hkl
      clear hlt hk
      go_wp2_with (first
        | (go_at_call 121; with_reducible refine (HSO.out _).mono ?_; rintro r w3 ⟨rfl, hb3⟩; have B3 := Lib.hid (HBr.out.trans (hb3.mono HBr.out.size)))
        | (go_at_call 122; with_reducible refine (HCO.out _).mono ?_; rintro r w4 ⟨rfl, hb4⟩; have B4 := Lib.hid (B3.out.trans (hb4.mono B3.out.size)))
        | (go_at_call 123; with_reducible refine (HST.out _ _).mono ?_; rintro r w5 ⟨rfl, rfl⟩))
      go_ret2
      exact ⟨rfl, HB2w.out.trans (B4.out.mono HB2w.out.size)⟩

end Go.Proofs.YtdoaniccefdkaaaGreatDoor

/- trivetlaw16.at, made. -/
namespace Go.Proofs.YtdoaniccefdkaaaGreatDoor
open Go.RowKit Tvf Go.Maps Go.WideMaps

theorem at16_walk (x y : Nat) (w : World) : Calls Tryz.prog 57 #[.float .f64 x, .float .f64 y] w fun r w' => r = .returned (.agg #[.float .f64 x, .float .f64 y]) ∧ Below w.heap.size w w' := by
  go_enter Tryz.func57, Tryz.ntmps57
  go_wp2
  go_returns
  exact ⟨rfl, (Below.refl _ _).alloc (Nat.le_refl _) _⟩

/-- the triangles that are made, of a list -/
def goodL (M : MeshM) : List Tri3 → List Tri3
  | [] => []
  | t :: r => if makeCode M t.1 t.2.1 t.2.2 = 0 then t :: goodL (makeR M t.1 t.2.1 t.2.2) r else goodL (makeR M t.1 t.2.1 t.2.2) r
theorem goodL_snoc (t : Tri3) : ∀ (l : List Tri3) (M : MeshM), goodL M (l ++ [t]) = goodL M l ++ (if makeCode (foldM M l) t.1 t.2.1 t.2.2 = 0 then [t] else [])
  | [], M => by
    have e : foldM M [] = M := rfl
    rw [e]
    simp only [List.nil_append, goodL]
  | u :: r, M => by
    have ih := goodL_snoc t r (makeR M u.1 u.2.1 u.2.2)
    simp only [List.cons_append, goodL]
    have e : foldM M (u :: r) = foldM (makeR M u.1 u.2.1 u.2.2) r := rfl
    rw [ih, e]
    split <;> rfl
theorem goodL_len : ∀ (l : List Tri3) (M : MeshM), (goodL M l).length ≤ l.length
  | [], _ => Nat.le_refl _
  | t :: r, M => by
    have ih := goodL_len r (makeR M t.1 t.2.1 t.2.2)
    simp only [goodL]
    split
    · simp only [List.length_cons]; omega
    · simp only [List.length_cons]; omega

theorem row_stay {w wr w2 : World} {T : TypeId} {v : Value} {G : List Tri3} {F : Nat → Prop} (ho : wr.ownsRow w.heap.size T 3 v G.length (cellsK encT G)) (hd : ∀ g, v.ownBlock = some g → ¬F g) (hs : Stay F wr w2) :
    w2.ownsRow w.heap.size T 3 v G.length (cellsK encT G) ∧ ∀ g, v.ownBlock = some g → ¬Fx F wr w2 g := by
  refine ⟨ownsRow_same ho (fun g hg => hs.block g (ho.lt g hg).2 (hd g hg)), fun g hg h => ?_⟩
  rcases h with h | h
  · exact hd g hg h
  · have := (ho.lt g hg).2; omega
theorem row_grown {w w2 w3 : World} {o : Obj} {v : Value} {T : TypeId} {G : List Tri3} {F : Nat → Prop} {mb n : Nat} {M : MeshM} (hm : MB w w2 mb n M F) (ho : w2.ownsRow w.heap.size T 3 v G.length (cellsK encT G)) (hd : ∀ g, v.ownBlock = some g → ¬F g)
    (hg : (w2.alloc o).grownBy w3 v.ownBlock) : MB w w3 mb n M F := by
  have hsz : (w2.alloc o).heap.size = w2.heap.size + 1 := by simp
  have hb : Below w.heap.size w2 w3 := by
    have h1 : Below w.heap.size w2 (w2.alloc o) := (Below.refl _ _).alloc hm.keep.size o
    exact h1.grown hg (by have := hm.keep.size; omega) (fun k hk => (ho.lt k hk).1)
  have hf : ∀ i, F i → w3.heap[i]? = w2.heap[i]? := fun i hi => by
    have hlt := hm.at_.flt i hi
    rw [hg.block i (by omega) (fun e => hd i e.symm hi)]
    exact Below.heap_alloc w2 o i hlt
  exact ⟨hm.at_.same hb.size hf, hm.new, hm.keep.trans hb⟩
theorem tcells_at {w : World} {b off k : Nat} {T : List Tri3} (h : TCells w (some ⟨b, off, none⟩) T) (hk : k < T.length) :
    w.cell? ⟨b, off + k * 3, none⟩ = some (.int .i64 (T.getD k (0, 0, 0)).1) ∧ w.cell? ⟨b, off + k * 3 + 1, none⟩ = some (.int .i64 (T.getD k (0, 0, 0)).2.1) ∧ w.cell? ⟨b, off + k * 3 + 2, none⟩ = some (.int .i64 (T.getD k (0, 0, 0)).2.2) := by
  obtain ⟨b', off', e, _, hc⟩ := h (by omega)
  cases e
  exact hc k hk

set_option maxRecDepth 100000 in
set_option maxHeartbeats 1000000 in
theorem made16_nil (l : List Pt) (ad : Option Addr) (cap : Nat) (vt : Value) (h64 : ∀ p, p ∈ l → pt64 p) (hk : allCode l ≠ 0) (w : World) (hc : PCells w ad l) :
    Calls Tryz.prog 50 #[.slice ad l.length cap, vt] w fun r w' => r = .returned (.tuple #[.pointer none, .slice none 0 0]) ∧ Below w.heap.size w w' := by
  have HN := Lib.hid (new_bad l ad cap h64 hk w hc)
  clear hc h64
  generalize allCode l = e at *
  go_enter Tryz.func50, Tryz.ntmps50
  go_wp2_with (go_at_call 27; refine HN.out.mono ?_; rintro r w1 ⟨rfl, hb1⟩)
  go_ret2
  exact ⟨rfl, hb1⟩

set_option maxRecDepth 100000 in
set_option maxHeartbeats 4000000 in
theorem made16_ok (l : List Pt) (ad : Option Addr) (cap : Nat) (T : List Tri3) (at_ : Option Addr) (capt : Nat) (h64 : ∀ p, p ∈ l → pt64 p) (hk : allCode l = 0) (hl : l.length ≤ 1048576) (hT : T.length ≤ 1000000) (w : World) (hc : PCells w ad l) (hct : TCells w at_ T) :
    Calls Tryz.prog 50 #[.slice ad l.length cap, .slice at_ T.length capt] w fun r w' => ∃ mb F ad' cap', r = .returned (.tuple #[.pointer (some ⟨mb, 0, none⟩), .slice ad' (goodL (emptyM l) T).length cap']) ∧ MB w w' mb (3 * T.length) (foldM (emptyM l) T) F ∧ KCells encT w' ad' (goodL (emptyM l) T) ∧ ∀ g, ad' = some g → ¬F g.block := by
  have HN := Lib.hid (new_mb l ad cap h64 hk hl w w (Below.refl _ _) hc)
  have HTC := Lib.hid hct
  have H64 := Lib.hid h64
  have HL := Lib.hid hl
  have HTL := Lib.hid hT
  clear h64 hk hl hc hct hT
  obtain ⟨i0, hi, hz0, hz1, hz2⟩ := info_parts infoTri
  go_enter Tryz.func50, Tryz.ntmps50
  go_wp2_with (go_at_call 27; refine HN.out.mono ?_; rintro r w1 ⟨mb, F, rfl, hm1, _, _⟩)
  have HM1 := Lib.hid hm1
  clear hm1
  go_loopw [8, 9] (fun s8 s9 wr => ∃ (k : Nat) (F : Nat → Prop), k ≤ T.length ∧ s9 = .int .i64 k ∧ Hid (MB w wr mb (3 * k) (foldM (emptyM l) (T.take k)) F) ∧ Hid (wr.ownsRow w.heap.size 45 3 s8 (goodL (emptyM l) (T.take k)).length (cellsK encT (goodL (emptyM l) (T.take k)))) ∧ Hid (∀ g, s8.ownBlock = some g → ¬F g)) (fun _ s9 _ => T.length - (intOf s9).toNat)
  case atStart => exact ⟨0, F, Nat.zero_le _, rfl, HM1.out, World.ownsRow_nil _ _ _ _, fun g hg => by cases hg⟩
  case round =>
    obtain ⟨k, G, hk, rfl, HM, HO, HD⟩ := hrel
    by_cases hlt : k < T.length
    · have HKL := Lib.hid hlt
      have HTW := Lib.hid (HTC.out.below HM.out.keep)
      have HTS := Lib.hid (take_snocT T k hlt)
      obtain ⟨b, off, rfl, hbl, hcc⟩ := HTW.out (by omega)
      obtain ⟨q0, q1, q2⟩ := hcc k hlt
      clear hcc
      obtain ⟨t, ht⟩ : ∃ t, Hid (T.getD k (0, 0, 0) = t) := ⟨_, rfl⟩
      rw [ht.out] at q0 q1 q2 HTS
      obtain ⟨ta, tb, tc⟩ := t
      dsimp only at q0 q1 q2
      have HQ : Hid (∀ W, Below w.heap.size w W → W.cell? ⟨b, off + k * 3, none⟩ = some (.int .i64 ta) ∧ W.cell? ⟨b, off + k * 3 + 1, none⟩ = some (.int .i64 tb) ∧ W.cell? ⟨b, off + k * 3 + 2, none⟩ = some (.int .i64 tc)) := fun W hb => by
        have := tcells_at (HTC.out.below hb) hlt
        rw [ht.out] at this
        exact this
      have HMK := Lib.hid (make_mb HM.out.drew (by rw [foldM_P]; exact H64.out) (by rw [foldM_P]; exact HL.out) (by have := HTL.out; omega) ta tb tc)
      have HFS : Hid (foldM (emptyM l) (T.take (k + 1)) = makeR (foldM (emptyM l) (T.take k)) ta tb tc) := by unfold Hid; rw [HTS.out, foldM_snoc]
      have HGS : Hid (goodL (emptyM l) (T.take (k + 1)) = goodL (emptyM l) (T.take k) ++ (if makeCode (foldM (emptyM l) (T.take k)) ta tb tc = 0 then [(ta, tb, tc)] else [])) := by unfold Hid; rw [HTS.out, goodL_snoc]
      have HGL : Hid ((goodL (emptyM l) (T.take k)).length ≤ k) := by
        have := goodL_len (T.take k) (emptyM l)
        rw [List.length_take] at this
        unfold Hid; omega
      generalize makeCode (foldM (emptyM l) (T.take k)) ta tb tc = mc at HMK HGS
      generalize makeR (foldM (emptyM l) (T.take k)) ta tb tc = M2 at HMK HFS
      generalize goodL (emptyM l) (T.take k) = GL at *
      by_cases hmc : mc = 0
      · subst hmc
        go_wp2
        go_still_tail 16, (by kernel_rfl)
        go_wp2_with (first
          | (go_at_call 28; refine HMK.out.mono ?_; rintro r w2 ⟨rfl, hm2, hs2⟩; have HM2 := Lib.hid hm2; have HRS := Lib.hid (row_stay (wr := wr.drew) HO.out HD.out hs2); have x012 := HQ.out _ hm2.keep; clear hm2 hs2 q0 q1 q2)
          | (at_builtin; refine wpList_append_lies _ rfl _ _ 23 rfl w.heap.size 45 i0 (.agg #[.int .i64 0, .int .i64 0, .int .i64 0]) 3 24 Tryz.underlying23 hi hz0 hz1 hz2 rfl (by decide) u8 GL.length (cellsK encT GL) rfl (HRS.out.1.alloc _) ⟨w2.heap.size, 0, none⟩ 1 1 (encT (ta, tb, tc)) rfl ?qc1 ?qc2 ?qc3 (by decide) ?qc4 ?qc5 ?qc6 _ rfl ?_))
        case qc1 => rfl
        case qc2 => exact cells_new w2 (encT (ta, tb, tc)) 45
        case qc3 => exact encT_one _
        case qc4 => have := HGL.out; have := HTL.out; have := HKL.out; unfold maxLen; omega
        case qc5 => have := HGL.out; have := HTL.out; have := HKL.out; omega
        case qc6 => have := HM2.out.keep.size; simp; omega
        intro g9 cap9 w9 hown9 hg9 hloc9 hlt9
        have HM9 : Hid (MB w w9 mb (3 * (k + 1)) (foldM (emptyM l) (T.take (k + 1))) (Fx G wr.drew w2)) := by
          unfold Hid; rw [HFS.out]; exact row_grown HM2.out HRS.out.1 HRS.out.2 hg9
        have HO9 : Hid (w9.ownsRow w.heap.size 45 3 (.slice (some ⟨g9, 0, none⟩) (GL.length + 1) cap9) (goodL (emptyM l) (T.take (k + 1))).length (cellsK encT (goodL (emptyM l) (T.take (k + 1))))) := by
          unfold Hid; rw [HGS.out, if_pos trivial, cellsK_append, cellsK_one, List.length_append]; exact hown9
        have HD9 : Hid (∀ g, (Value.slice (some ⟨g9, 0, none⟩) (GL.length + 1) cap9).ownBlock = some g → ¬Fx G wr.drew w2 g) := fun g hg h => by
          cases hg
          rcases hloc9 with e | e
          · exact HRS.out.2 _ e h
          · have h1 : g9 < w2.heap.size := HM2.out.at_.flt _ h
            omega
        clear hown9 hg9 hloc9 hlt9 x012
        go_wp2
        go_roundw
        case rel => exact ⟨k + 1, _, by have := HKL.out; omega, (by have := HTL.out; have := HKL.out; first | rfl | rw [wrapS (by omega)]), HM9.out, HO9.out, HD9.out⟩
        case measure => have := HTL.out; have := HKL.out; first | (simp [intOf]; omega) | (rw [wrapS (by omega)]; simp [intOf]; omega)
      · go_wp2
        go_still_tail 16, (by kernel_rfl)
        go_wp2_with (go_at_call 28; refine HMK.out.mono ?_; rintro r w2 ⟨rfl, hm2, hs2⟩; have HM2 := Lib.hid hm2; have HRS := Lib.hid (row_stay (wr := wr.drew) HO.out HD.out hs2); clear hm2 hs2 q0 q1 q2)
        have HM9 : Hid (MB w w2 mb (3 * (k + 1)) (foldM (emptyM l) (T.take (k + 1))) (Fx G wr.drew w2)) := by
          unfold Hid; rw [HFS.out]; exact HM2.out
        have HO9 : Hid (w2.ownsRow w.heap.size 45 3 u8 (goodL (emptyM l) (T.take (k + 1))).length (cellsK encT (goodL (emptyM l) (T.take (k + 1))))) := by
          unfold Hid; rw [HGS.out, if_neg hmc, List.append_nil]; exact HRS.out.1
        go_roundw
        case rel => exact ⟨k + 1, _, by have := HKL.out; omega, (by have := HTL.out; have := HKL.out; first | rfl | rw [wrapS (by omega)]), HM9.out, HO9.out, HRS.out.2⟩
        case measure => have := HTL.out; have := HKL.out; first | (simp [intOf]; omega) | (rw [wrapS (by omega)]; simp [intOf]; omega)
    · have e : k = T.length := by omega
      subst e
      rw [List.take_length] at HM HO
      clear hlt hk
      obtain ⟨ad', cap', rfl, hkc, _⟩ := owns_kcells HO.out
      have HKC := Lib.hid hkc
      have HDD := Lib.hid HD.out
      clear hkc
      go_wp2
      go_ret2
      refine ⟨mb, G, ad', cap', rfl, HM.out, HKC.out, fun g hg => ?_⟩
      subst hg
      exact HDD.out g.block rfl

end Go.Proofs.YtdoaniccefdkaaaGreatDoor
