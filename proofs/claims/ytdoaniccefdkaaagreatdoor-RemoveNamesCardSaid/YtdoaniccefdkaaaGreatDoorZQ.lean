/- Part of the proof. No conditions. -/
import Derived.Test.YtdoaniccefdkaaaGreatDoorZP

set_option linter.all false
/- remove.Point where the point is taken out: the walk. -/
namespace Go.Proofs.YtdoaniccefdkaaaGreatDoor
open Go.RowKit Tvf Go.Maps Go.WideMaps

theorem earsL_len (M : MeshM) (R : List Int) : (earsL M R).length = R.length - 3 + 1 := by
  unfold earsL
  rw [List.length_append, esRun_out]
  rfl

/-- what Ring hands on -/
structure RgOk (w W : World) (g cap : Nat) (R : List Int) : Prop where
  nc : NCells W (some ⟨g, 0, none⟩) R
  lo : w.heap.size ≤ g
  hi : g < W.heap.size
  cap : R.length ≤ cap
  i64 : ∀ x, x ∈ R → i64ok x
theorem RgOk.below {w W W' : World} {g cap : Nat} {R : List Int} (h : RgOk w W g cap R) (hb : Below W.heap.size W W') : RgOk w W' g cap R := ⟨h.nc.below hb, h.lo, Nat.lt_of_lt_of_le h.hi hb.size, h.cap, h.i64⟩

section
variable {w0 w : World} {mb n : Nat} {M : MeshM} {F : Nat → Prop} (h : MB w0 w mb n M F) {v : Int} (hv : i64ok v) {R : List Int}
include h hv
theorem ring_box (hs : Sound M) (hl : M.P.length ≤ 1048576) (hn : n ≤ 1000000000) (hsl : (spokesL M v).length ≤ 1000000) (hR : ringR M v = R) (h0 : 0 < R.length) (W : World) (hp : PBox W w.heap.size (w.heap.size + 1) mb v) (hb : Hid (Below w.heap.size w W)) :
    Calls Tryz.prog 62 #[.pointer (some ⟨mb, 0, none⟩), .int .i64 v] W fun r w' => ∃ g cap, r = .returned (.slice (some ⟨g, 0, none⟩) R.length cap) ∧ PBox w' w.heap.size (w.heap.size + 1) mb v ∧ Hid (Below w.heap.size w w') ∧ Hid (RgOk w w' g cap R) := by
  refine (ring_some (h.at_.below hb.out) hs hl hn hv hsl hR h0).mono ?_
  rintro r w' ⟨g, cap, rfl, hc, hnc, hg, hi, hb'⟩
  exact ⟨g, cap, rfl, hp.below hb', hb.out.trans (hb'.mono hb.out.size), hnc, Nat.le_trans hb.out.size hg.1, hg.2, hc, hi⟩
theorem fixed_box (hl : R.length ≤ 1000000) (hf : R.any (fixB M v) = false) (W : World) (g cap : Nat) (hp : PBox W w.heap.size (w.heap.size + 1) mb v) (hb : Hid (Below w.heap.size w W)) (hr : Hid (RgOk w W g cap R)) :
    Calls Tryz.prog 131 #[.slice (some ⟨g, 0, none⟩) R.length cap, .func (.func 132) #[] #[.pointer (some ⟨w.heap.size, 0, none⟩), .pointer (some ⟨w.heap.size + 1, 0, none⟩)]] W fun e w' => e = .returned (.bool false) ∧ PBox w' w.heap.size (w.heap.size + 1) mb v ∧ Hid (Below w.heap.size w w') ∧ Hid (RgOk w w' g cap R) := by
  have := containsFunc_walk (cap := cap) (p := fixB M v) (lb := #[.pointer (some ⟨w.heap.size, 0, none⟩), .pointer (some ⟨w.heap.size + 1, 0, none⟩)]) enters_point1 hr.out.nc (by omega) fun W' x hx' hb2 => point1_walk ((h.at_.below hb.out).below hb2) hv (hp.below hb2) (hr.out.i64 x hx')
  rw [hf] at this
  refine this.mono ?_
  rintro e w' ⟨rfl, hb'⟩
  exact ⟨rfl, hp.below hb', hb.out.trans (hb'.mono hb.out.size), hr.out.below hb'⟩
omit hv in
theorem ears_box (h64 : ∀ p, p ∈ M.P → pt64 p) (h3 : 3 ≤ R.length) (hRl : R.length ≤ 1000000) (hok : ∀ j, j < R.length - 3 → EarOk M (esRun M ⟨R, []⟩ j).R) {E : List Tri3} (hE : earsL M R = E) (W : World) (g cap : Nat) (hp : PBox W w.heap.size (w.heap.size + 1) mb v) (hb : Hid (Below w.heap.size w W)) (hr : Hid (RgOk w W g cap R)) :
    Calls Tryz.prog 133 #[.pointer (some ⟨mb, 0, none⟩), .slice (some ⟨g, 0, none⟩) R.length cap] W fun r w' => ∃ aE cE, r = .returned (.tuple #[.slice aE E.length cE, .bool true]) ∧ Hid (Below w.heap.size w w') ∧ Hid (PInv w0 w' F mb w.heap.size (w.heap.size + 1) v (some ⟨g, 0, none⟩) R aE E w' n M F) := by
  refine (ears_walk (h.at_.below hb.out) h64 hr.out.nc hr.out.cap h3 hRl hok).mono ?_
  rintro r w' ⟨u, rfl, ho, hb'⟩
  rw [hE] at ho
  obtain ⟨aE, cE, rfl, hk, hg⟩ := owns_kcells ho
  have hb2 := hb.out.trans (hb'.mono hb.out.size)
  have hF : ∀ i, w.heap.size ≤ i → ¬F i := fun i hi e => by have := h.at_.flt i e; omega
  have hp2 := hp.below hb'
  refine ⟨aE, cE, rfl, hb2, ⟨h.below hb2, Stay.refl _ _, fun i hi => .inl hi, hp2, hr.out.nc.below hb', hk, ⟨World.block_lt_of_cell? _ _ hp2.1, hF _ (Nat.le_refl _)⟩, ⟨World.block_lt_of_cell? _ _ hp2.2, hF _ (Nat.le_succ _)⟩, fun g' e => ?_, fun g' e => ?_⟩⟩
  · cases e; exact ⟨Nat.lt_of_lt_of_le hr.out.hi hb'.size, hF _ hr.out.lo⟩
  · have := hg g' e
    exact ⟨this.2, hF _ (by have := hb.out.size; omega)⟩
end

/-- an append, as an equation -/
theorem wpList_run_append {P : Program} {w : World} {ops : Array Oper} {rest : List Oper} {o : Oper} {a : Act} {Q : Exit → Act → World → Prop} (hgd : o.guard = none) (s x : Operand) (t : TypeId)
    (ho : o.op = .call { callee := .builtin .append, args := #[s, x], argTypes := #[t, t] }) (v y : Value) (hs : a.eval s = v) (hx : a.eval x = y) (v' : Value) (w' : World) (hr : (Builtin.append_ #[t, t] o.type #[v, y]).run P w = .ok v' w')
    (h : wpList P ops Q rest (a.put o.dst v') w') : wpList P ops Q (o :: rest) a w := by
  refine wpList_plain hgd fun K hK => ?_
  unfold Oper.wp execOp
  simp only [ho, resolve, invoke, builtin, Sem.run_bind, Sem.run_pure, Result.andThen_ok, List.map_toArray, List.map_cons, List.map_nil, hs, hx, hr]
  exact hK _ _ h

/-- three edges more -/
theorem Edg.push_new {B : Nat} {W : World} {F : Nat → Prop} {v : Value} {S : List (Int × Int)} (h : Edg B W F v S) (hl : S.length ≤ 1000000000) (a b c : Int) :
    ∃ g' c' w', (Builtin.append_ #[78, 78] 78 #[v, .slice (some ⟨W.heap.size, 0, none⟩) 3 3]).run Tryz.prog (W.alloc (.cells #[.int .i64 a, .int .i64 b, .int .i64 b, .int .i64 c, .int .i64 c, .int .i64 a] 62)) = .ok (.slice (some ⟨g', 0, none⟩) (S.length + 3) c') w' ∧ Hid (Edg B w' F (.slice (some ⟨g', 0, none⟩) (S.length + 3) c') (S ++ [(a, b), (b, c), (c, a)])) ∧ Hid (Below B W w' ∧ ∀ i, F i → w'.heap[i]? = W.heap[i]?) := by
  obtain ⟨g', c', w', hr, h1, h2⟩ := (h.al (.cells #[.int .i64 a, .int .i64 b, .int .i64 b, .int .i64 c, .int .i64 c, .int .i64 a] 62)).push3 (f1 := (a, b)) (f2 := (b, c)) (f3 := (c, a)) (a := ⟨W.heap.size, 0, none⟩) (k := 3) (cells_new W (encP (a, b) ++ encP (b, c) ++ encP (c, a)) 62) hl 78
  have hb : Below W.heap.size W (W.alloc (.cells #[.int .i64 a, .int .i64 b, .int .i64 b, .int .i64 c, .int .i64 c, .int .i64 a] 62)) := (Below.refl _ _).alloc (Nat.le_refl _) _
  exact ⟨g', c', w', hr, h1, (hb.mono h.base).trans h2.out.1, fun i hi => (h2.out.2 i hi).trans (hb.block i (h.flt i hi))⟩

/-- the cells that a turn of the first loop reads -/
theorem PInv.c3 {w0 wS W : World} {F0 G : Nat → Prop} {mb bm bv n g : Nat} {v : Int} {aE : Option Addr} {R : List Int} {E : List Tri3} {M : MeshM} (h : PInv w0 wS F0 mb bm bv v (some ⟨g, 0, none⟩) R aE E W n M G) {j : Nat} (hj : j < R.length) :
    W.cell? ⟨bm, 0, none⟩ = some (.pointer (some ⟨mb, 0, none⟩)) ∧ W.cell? ⟨bv, 0, none⟩ = some (.int .i64 v) ∧ W.cell? ⟨g, j, none⟩ = some (.int .i64 (R.getD j 0)) := by
  obtain ⟨g', e, _, hc⟩ := h.rg (by omega)
  cases e
  exact ⟨h.bx.1, h.bx.2, hc j hj⟩
theorem wheelT_eq (v : Int) (R : List Int) (j : Nat) : wheelT v R j = (v, R.getD j 0, R.getD ((j + 1) % R.length) 0) := rfl

set_option maxRecDepth 100000 in
set_option maxHeartbeats 8000000 in
theorem rpoint_ok {w0 w : World} {mb n : Nat} {M : MeshM} {F : Nat → Prop} (h : MB w0 w mb n M F) (h64 : ∀ p, p ∈ M.P → pt64 p) (hs : Sound M) (hl : M.P.length ≤ 1048576) (hn : n ≤ 100000) {v : Int} (hv : i64ok v) (hx : hasM M v = true) {k : Nat} (hk : (spokesL M v).length = k + 1) (hk6 : k ≤ 100000) {R : List Int} (hR : ringR M v = R) (h3 : 3 ≤ R.length) (hRl : R.length ≤ 10000) (hf : R.any (fixB M v) = false)
    (hok : ∀ j, j < R.length - 3 → EarOk M (esRun M ⟨R, []⟩ j).R) {E : List Tri3} (hE : earsL M R = E) {MK MZ : MeshM} (hMK : killL M (wheelL v R) = MK) (hOK : allOk MK E) (hMZ : foldM MK E = MZ) (hset : ∀ e, e ∈ edges3 E → InOrd MZ e) :
    Calls Tryz.prog 60 #[.pointer (some ⟨mb, 0, none⟩), .int .i64 v] w fun r w' => r = .returned (.int .i64 0) ∧ ∃ G, MB w0 w' mb (n + 3 * R.length + 3 * E.length) MZ G ∧ Stay F w w' ∧ ∀ i, G i → F i ∨ w.heap.size ≤ i := by
  have HP := Lib.hid (pt_box h.at_ hx)
  have HS := Lib.hid (sp_box h.at_ hv hs hl (by omega) hk)
  have HR := Lib.hid (ring_box h hv hs hl (by omega) (by omega) hR (by omega))
  have HFX := Lib.hid (fixed_box h hv (R := R) (by omega) hf)
  have HEA := Lib.hid (ears_box h (v := v) h64 h3 (by omega) hok hE)
  have HEL : Hid (E.length ≤ 10000) := by unfold Hid; rw [← hE, earsL_len]; omega
  obtain ⟨c1, c2⟩ := pbox_new w mb v 29 3
  have hkz : ¬((k + 1 : Nat) : Int) = 0 := by omega
  have H64 := Lib.hid h64
  have HSD := Lib.hid hs
  have HL := Lib.hid hl
  have HNN := Lib.hid hn
  have HV := Lib.hid hv
  have HRL : Hid (3 ≤ R.length ∧ R.length ≤ 10000) := ⟨h3, hRl⟩
  have HMK := Lib.hid hMK
  have HMKP : Hid (MK.P = M.P) := by unfold Hid; rw [← hMK, killL_P]
  have HMKS : Hid (Sound MK) := by unfold Hid; rw [← hMK]; exact killL_sound hs _
  have HOK := Lib.hid hOK
  have HMZ := Lib.hid hMZ
  have HST := Lib.hid hset
  have HW0 := Lib.hid h.keep.size
  generalize ptAt M v = pp at *
  clear h h64 hs hl hn hv hx hk hk6 hR h3 hRl hf hok hE hMK hOK hMZ hset
  generalize k + 1 = k1 at *
  have q22 : ∀ (w : World) (a : Option Addr) (n c n' c' : Nat), (binOp .eql 72 (.slice a n c) (.slice none n' c')).run Tryz.prog w = .ok (.bool a.isNone) w := fun w a n c n' c' => Lib.run_eql_slice_nil w _ _ a n c n' c' Tryz.underlying72
  go_enter Tryz.func60, Tryz.ntmps60
  go_wp2_with (first
    | (go_at_call 48; with_reducible refine HP.out.mono ?_; rintro r w1 ⟨rfl, ⟨d1, d2⟩, b1⟩)
    | (go_at_call 84; with_reducible refine (HS.out _ (PBox.i (d1 _) (d2 _)) (Lib.hid (b1.out _))).mono ?_; rintro r w2 ⟨ad, cap, rfl, p2, b2⟩; obtain ⟨e1, e2⟩ := p2.o)
    | (go_at_call 62; with_reducible refine (HR.out _ (PBox.i e1 e2) b2).mono ?_; rintro r w3 ⟨g, capr, rfl, p3, b3, HRG3⟩; obtain ⟨f1, f2⟩ := p3.o)
    | (go_at_call 131; with_reducible refine (HFX.out _ _ _ (PBox.i f1 f2) b3 HRG3).mono ?_; rintro r w4 ⟨rfl, p4, b4, HRG4⟩; obtain ⟨g1, g2⟩ := p4.o)
    | (go_at_call 133; with_reducible refine (HEA.out _ _ _ (PBox.i g1 g2) b4 HRG4).mono ?_; rintro r w5 ⟨aE, cE, rfl, b5, HPI⟩))
  have HB5 := Lib.hid b5.out
  have HI64 := Lib.hid HRG4.out.i64
  clear HP HS HR HFX HEA c1 c2 d1 d2 b1 p2 e1 e2 b2 p3 f1 f2 b3 HRG3 p4 g1 g2 b4 HRG4 b5
  have HWW : Hid (w0.heap.size ≤ w5.heap.size) := Nat.le_trans HW0.out HB5.out.size
  go_loopw [56] (fun s56 wr => ∃ (j : Nat) (G : Nat → Prop), j ≤ R.length ∧ s56 = .int .i64 j ∧ Hid (PInv w0 w5 F mb w.heap.size (w.heap.size + 1) v (some ⟨g, 0, none⟩) R aE E wr (n + 3 * j) (killL M ((wheelL v R).take j)) G)) (fun s56 _ => R.length - (intOf s56).toNat)
  case atStart => exact ⟨0, F, Nat.zero_le _, rfl, HPI.out⟩
  case round =>
    obtain ⟨j, G, hj, rfl, HPJ⟩ := hrel
    by_cases hlt : j < R.length
    · have hltz : (j : Int) < (R.length : Int) := by omega
      have hL0 : 0 < R.length := by omega
      have hj1 := Nat.mod_lt (j + 1) hL0
      have HWT := Lib.hid (wheel_take v R hlt)
      have HRJ := Lib.hid hlt
      obtain ⟨_, _, q0⟩ := HPJ.out.c3 hlt
      have n0 := (HPJ.out.drew HWW.out).c3 hj1
      have HIJ : Hid (i64ok (R.getD j 0) ∧ i64ok (R.getD ((j + 1) % R.length) 0)) := ⟨HI64.out _ (getD_memI hlt), HI64.out _ (getD_memI hj1)⟩
      have HKL := Lib.hid ((HPJ.out.drew HWW.out).kill (by have := HNN.out; have := HRL.out; omega) HV.out HIJ.out.1 HIJ.out.2)
      have HC3 : Hid (∀ W n' M' G', Hid (PInv w0 w5 F mb w.heap.size (w.heap.size + 1) v (some ⟨g, 0, none⟩) R aE E W n' M' G') → W.cell? ⟨w.heap.size, 0, none⟩ = some (.pointer (some ⟨mb, 0, none⟩)) ∧ W.cell? ⟨w.heap.size + 1, 0, none⟩ = some (.int .i64 v) ∧ W.cell? ⟨g, (j + 1) % R.length, none⟩ = some (.int .i64 (R.getD ((j + 1) % R.length) 0))) := fun W n' M' G' hp => hp.out.c3 hj1
      rw [wheelT_eq] at HWT
      have hr1 : ((j : Int) + 1).tmod (R.length : Int) = (((j + 1) % R.length : Nat) : Int) := by
        have := mod_at (k := j) (s := 1) (n := R.length) (by have := HRL.out; omega)
        rw [show wrap64 ((j : Int) + ((1 : Nat) : Int)) = (j : Int) + 1 by have := HRL.out; unfold wrap64; omega] at this; exact this
      have hw1 : IntKind.i64.wrap ((j : Int) + 1) = (j : Int) + 1 := wrap_smJ (by omega) (by have := HRL.out; omega)
      have hw2 : IntKind.i64.wrap (((j + 1) % R.length : Nat) : Int) = (((j + 1) % R.length : Nat) : Int) := wrap_smJ (by omega) (by have := HRL.out; omega)
      have hz1 : (0 : Int) ≤ (((j + 1) % R.length : Nat) : Int) := by omega
      have hz2 : (((j + 1) % R.length : Nat) : Int) < (R.length : Int) := by omega
      have hnn : ¬R.length = 0 := by omega
      have hnz : ¬(R.length : Int) = 0 := by omega
      generalize R.getD j 0 = rb at *
      generalize R.getD ((j + 1) % R.length) 0 = rc at *
      generalize (j + 1) % R.length = j1 at *
      go_wp2
      go_region_held3 (fun w' => w'.cell? ⟨w.heap.size, 0, none⟩ = some (.pointer (some ⟨mb, 0, none⟩)) ∧ w'.cell? ⟨w.heap.size + 1, 0, none⟩ = some (.int .i64 v) ∧ w'.cell? ⟨g, j1, none⟩ = some (.int .i64 rc)) (first | with_reducible exact n0 | with_reducible exact n1)
        (first | (go_at_call 29; with_reducible refine HKL.out.mono ?_; rintro r w6 ⟨⟨kk, rfl⟩, G6, HP6⟩; have n1 := HC3.out _ _ _ _ HP6))
      clear n0 n1 hr1 hw1 hw2 hz1 hz2 hnn hnz q0 hltz
      have HP7 : Hid (PInv w0 w5 F mb w.heap.size (w.heap.size + 1) v (some ⟨g, 0, none⟩) R aE E w6 (n + 3 * (j + 1)) (killL M ((wheelL v R).take (j + 1))) G6) := by
        unfold Hid; rw [HWT.out, killL_snoc]; exact HP6.out
      go_wp2
      go_roundw
      case rel => exact ⟨j + 1, G6, by have := HRJ.out; omega, by (first | rfl | rw [wrapJ (by have := HRL.out; have := HRJ.out; omega)]), HP7.out⟩
      case measure => have := HRL.out; have := HRJ.out; first | (simp [intOf]; omega) | (rw [wrapJ (by omega)]; simp [intOf]; omega)
    · have e : j = R.length := by omega
      subst e
      have HPK : Hid (PInv w0 w5 F mb w.heap.size (w.heap.size + 1) v (some ⟨g, 0, none⟩) R aE E wr (n + 3 * R.length) MK G) := by
        have := HPJ.out
        rw [← wheel_len v R, List.take_length, HMK.out, wheel_len] at this
        exact this
      clear hlt hj HPJ HMK HPI HI64
      go_wp2
      obtain ⟨wo, rfl⟩ : ∃ x, x = wr := ⟨_, rfl⟩
      have HE0 : Hid (Edg wo.heap.size wo G (.slice none 0 0) []) := Edg.nil HPK.out.m.at_.flt
      go_loopw [12, 76] (fun s12 s76 wr => ∃ (j : Nat) (H : Nat → Prop), j ≤ E.length ∧ s76 = .int .i64 j ∧ Hid (PInv w0 w5 F mb w.heap.size (w.heap.size + 1) v (some ⟨g, 0, none⟩) R aE E wr (n + 3 * R.length + 3 * j) (foldM MK (E.take j)) H) ∧ Hid (Edg wo.heap.size wr H s12 (edges3 (E.take j)))) (fun _ s76 _ => E.length - (intOf s76).toNat)
      case atStart => exact ⟨0, G, Nat.zero_le _, rfl, HPK.out, HE0.out⟩
      case round =>
        obtain ⟨j, H, hj, rfl, HPJ, HEJ⟩ := hrel
        by_cases hlt : j < E.length
        · have hltz : (j : Int) < (E.length : Int) := by omega
          have HTS := Lib.hid (take_snocT E j hlt)
          have hco := allOk_getD HOK.out hlt
          obtain ⟨ge, ee, _, q0, q1, q2⟩ := HPJ.out.tr.tri hlt
          cases ee
          have HEJL := Lib.hid hlt
          generalize E.getD j (0, 0, 0) = t at *
          obtain ⟨ta, tb, tc⟩ := t
          dsimp only at q0 q1 q2 hco
          have HPJ1 := Lib.hid (HPJ.out.al HWW.out (.cells #[.int .i64 ta, .int .i64 tb, .int .i64 tc] 45))
          have HEJ1 := Lib.hid (HEJ.out.al (.cells #[.int .i64 ta, .int .i64 tb, .int .i64 tc] 45))
          have HC14 := Lib.hid (C3.new wr (.int .i64 ta) (.int .i64 tb) (.int .i64 tc) 45)
          have HMA : Hid (Calls Tryz.prog 28 #[.pointer (some ⟨mb, 0, none⟩), .int .i64 ta, .int .i64 tb, .int .i64 tc] (wr.alloc (.cells #[.int .i64 ta, .int .i64 tb, .int .i64 tc] 45)) fun r w' => r = .returned (.int .i64 0) ∧
              (w'.cell? ⟨wr.heap.size, 0, none⟩ = some (.int .i64 ta) ∧ w'.cell? ⟨wr.heap.size, 1, none⟩ = some (.int .i64 tb) ∧ w'.cell? ⟨wr.heap.size, 2, none⟩ = some (.int .i64 tc)) ∧ ∃ H', Hid (PInv w0 w5 F mb w.heap.size (w.heap.size + 1) v (some ⟨g, 0, none⟩) R (some ⟨ge, 0, none⟩) E w' (n + 3 * R.length + 3 * j + 3) (makeR (foldM MK (E.take j)) ta tb tc) H') ∧ Hid (Edg wo.heap.size w' H' u12 (edges3 (E.take j)))) := by
            refine (HPJ1.out.make (by rw [foldM_P, HMKP.out]; exact H64.out) (by rw [foldM_P, HMKP.out]; exact HL.out) (by have := HNN.out; have := HRL.out; have := HEL.out; omega) ta tb tc).mono ?_
            rintro r w' ⟨rfl, H', hp, hst, hsub⟩
            have hoff : ¬H wr.heap.size := fun e => by have := HPJ.out.m.at_.flt _ e; omega
            obtain ⟨k0, k1, k2⟩ := HC14.out
            exact ⟨by rw [hco], ⟨cell_stay k0 hst hoff, cell_stay k1 hst hoff, cell_stay k2 hst hoff⟩, H', hp, HEJ1.out.turn hst hsub hp.m.at_.flt⟩
          have HPS : Hid (∀ W H', Hid (Edg wo.heap.size W H' u12 (edges3 (E.take j))) → ∃ g' c' w', (Builtin.append_ #[78, 78] 78 #[u12, .slice (some ⟨W.heap.size, 0, none⟩) 3 3]).run Tryz.prog (W.alloc (.cells #[.int .i64 ta, .int .i64 tb, .int .i64 tb, .int .i64 tc, .int .i64 tc, .int .i64 ta] 62)) = .ok (.slice (some ⟨g', 0, none⟩) ((edges3 (E.take j)).length + 3) c') w' ∧ Hid (Edg wo.heap.size w' H' (.slice (some ⟨g', 0, none⟩) ((edges3 (E.take j)).length + 3) c') (edges3 (E.take j) ++ [(ta, tb), (tb, tc), (tc, ta)])) ∧ Hid (Below wo.heap.size W w' ∧ ∀ i, H' i → w'.heap[i]? = W.heap[i]?)) :=
            fun W H' hE => hE.out.push_new (by rw [edges3_len, List.length_take]; have := HEL.out; omega) ta tb tc
          obtain ⟨m0, _⟩ := HPJ1.out.bx.o
          clear hco HC14 HPJ1 HEJ1 q22
          go_wp2_with (first
            | (go_at_call 28; with_reducible refine HMA.out.mono ?_; rintro r w6 ⟨rfl, ⟨k0, k1, k2⟩, H6, HP6, HE6⟩; obtain ⟨g7, c7, w7, hr7, HE7, HB7⟩ := HPS.out _ _ HE6)
            | (at_builtin; refine wpList_run_append rfl _ _ 78 rfl u12 (.slice (some ⟨w6.heap.size, 0, none⟩) 3 3) rfl rfl _ _ hr7 ?_))
          have HP8 : Hid (PInv w0 w5 F mb w.heap.size (w.heap.size + 1) v (some ⟨g, 0, none⟩) R (some ⟨ge, 0, none⟩) E w7 (n + 3 * R.length + 3 * (j + 1)) (foldM MK (E.take (j + 1))) H6) := by
            unfold Hid
            rw [HTS.out, foldM_snoc]
            exact HP6.out.low (HB7.out.1.mono HPK.out.st.size) HB7.out.2 HWW.out
          have HE8 : Hid (Edg wo.heap.size w7 H6 (.slice (some ⟨g7, 0, none⟩) ((edges3 (E.take j)).length + 3) c7) (edges3 (E.take (j + 1)))) := by
            unfold Hid
            rw [HTS.out, edges3_snoc]
            exact HE7.out
          clear HE7 HB7 hr7 HP6 HE6 HPS HMA k0 k1 k2 m0 q0 q1 q2 hltz
          go_roundw
          case rel => exact ⟨j + 1, H6, by have := HEJL.out; omega, by (first | rfl | rw [wrapJ (by have := HEL.out; have := HEJL.out; omega)]), HP8.out, HE8.out⟩
          case measure => have := HEL.out; have := HEJL.out; first | (simp [intOf]; omega) | (rw [wrapJ (by omega)]; simp [intOf]; omega)
        · have e : j = E.length := by omega
          subst e
          have HPZ : Hid (PInv w0 w5 F mb w.heap.size (w.heap.size + 1) v (some ⟨g, 0, none⟩) R aE E wr (n + 3 * R.length + 3 * E.length) MZ H) := by
            have := HPJ.out
            rw [List.take_length, HMZ.out] at this
            exact this
          have HEZ : Hid (Edg wo.heap.size wr H u12 (edges3 E)) := by
            have := HEJ.out
            rw [List.take_length] at this
            exact this
          have HMZP : Hid (MZ.P = M.P) := by unfold Hid; rw [← HMZ.out, foldM_P, HMKP.out]
          have HMZS : Hid (Sound MZ) := by unfold Hid; rw [← HMZ.out]; exact foldM_sound _ HMKS.out
          obtain ⟨adz, capz, rfl, hcz, hkz2, hgz⟩ := owns_list HEZ.out.s
          have HSE : Hid (Calls Tryz.prog 134 #[.pointer (some ⟨mb, 0, none⟩), .slice adz (edges3 E).length capz] wr fun r w' => r = .returned (.tuple #[.int .i64 0, .int .i64 0]) ∧ Hid (∃ G2, MB w0 w' mb (n + 3 * R.length + 3 * E.length) MZ G2 ∧ Stay F w w' ∧ ∀ i, G2 i → F i ∨ w.heap.size ≤ i)) := by
            refine (settle_still HPZ.out.m (by rw [HMZP.out]; exact H64.out) HMZS.out (by rw [HMZP.out]; exact HL.out) (by have := HNN.out; have := HRL.out; have := HEL.out; omega) hcz hkz2 (fun g' e => ⟨HEZ.out.offs _ (hgz g' e).1, (hgz g' e).2⟩) (by rw [edges3_len]; have := HEL.out; omega) HST.out).mono ?_
            rintro r w' ⟨rfl, G2, h1, h2, h3⟩
            refine ⟨rfl, G2, h1, ?_, fun i hi => ?_⟩
            · have s1 : Stay F w w5 := Stay.of_below HB5.out
              have s2 : Stay F w wr := s1.trans (HPZ.out.st.mono fun i hi => .inl hi)
              exact s2.trans (h2.mono fun i hi => (HPZ.out.sub i hi).imp id (fun e => Nat.le_trans HB5.out.size e))
            · rcases h3 i hi with e | e
              · exact (HPZ.out.sub i e).imp id (fun e => Nat.le_trans HB5.out.size e)
              · exact .inr (Nat.le_trans HB5.out.size (Nat.le_trans HPZ.out.st.size e))
          obtain ⟨m0, _⟩ := HPZ.out.bx.o
          clear hkz2 hcz hgz hlt hj HPJ HEJ HPK HE0 HOK HMZ HST HEZ
          go_wp2_with (go_at_call 134; with_reducible refine HSE.out.mono ?_; rintro r w8 ⟨rfl, H8⟩)
          go_ret
          exact ⟨rfl, H8.out⟩

end Go.Proofs.YtdoaniccefdkaaaGreatDoor
