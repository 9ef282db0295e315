/- Places held against each other; trivetref16.Has. -/
import Derived.Test.YtdoaniccefdkaaaGreatDoorQR8
set_option linter.all false
namespace Go.Proofs.YtdoaniccefdkaaaGreatDoor
open Go.RowKit Tvf Go.Maps Go.WideMaps

theorem eqFields_gen {P : Program} (d : Nat) (xs ys : Array Value) (val : Field → Bool) : ∀ (fs : List Field) (w : World), (∀ f, f ∈ fs → f.name ≠ "_" ∧ ∃ a b, (∀ w, (part f.type xs f.offset).run P w = .ok a w) ∧ (∀ w, (part f.type ys f.offset).run P w = .ok b w) ∧ ∀ w, (Op.equalIn d f.type a b).run P w = .ok (val f) w) → (Op.eqFields d xs ys fs).run P w = .ok (fs.all val) w
  | [], w, _ => by simp [Op.eqFields]
  | f :: r, w, h => by
    obtain ⟨hn, a, b, h1, h2, h3⟩ := h f (by simp)
    have ih := eqFields_gen d xs ys val r w (fun g hg => h g (by simp [hg]))
    unfold Op.eqFields
    rw [if_pos hn]
    simp only [Sem.run_bind, h1, h2, h3, Result.andThen_ok, List.all_cons]
    cases val f
    · simp
    · simp only [Bool.not_true, Bool.false_eq_true, if_false, Bool.true_and]; exact ih

theorem partL_0 (k a b c : Int) (w : World) : (part 5 #[.int .u8 k, .int .i64 a, .int .i64 b, .int .i64 c] 0).run Tryz.prog w = .ok (.int .u8 k) w := by kernel_rfl
theorem partL_1 (k a b c : Int) (w : World) : (part 3 #[.int .u8 k, .int .i64 a, .int .i64 b, .int .i64 c] 1).run Tryz.prog w = .ok (.int .i64 a) w := by kernel_rfl
theorem partL_2 (k a b c : Int) (w : World) : (part 3 #[.int .u8 k, .int .i64 a, .int .i64 b, .int .i64 c] 2).run Tryz.prog w = .ok (.int .i64 b) w := by kernel_rfl
theorem partL_3 (k a b c : Int) (w : World) : (part 3 #[.int .u8 k, .int .i64 a, .int .i64 b, .int .i64 c] 3).run Tryz.prog w = .ok (.int .i64 c) w := by kernel_rfl
def plcB (x y : Plc) : Bool := x.k == y.k && (x.a == y.a && (x.b == y.b && x.c == y.c))
theorem plcB_iff (x y : Plc) : plcB x y = true ↔ x = y := by
  obtain ⟨a, b, c, d⟩ := x
  obtain ⟨e, f, g, h⟩ := y
  unfold plcB
  simp
def plcO (x y : Plc) (o : Nat) : Bool := if o = 0 then x.k == y.k else if o = 1 then x.a == y.a else if o = 2 then x.b == y.b else x.c == y.c
theorem run_item8 (a b : Int) (w : World) : (Op.equalIn 9999 5 (.int .u8 a) (.int .u8 b)).run Tryz.prog w = .ok (a == b) w := run_equalIn_int w 9998 5 .u8 .u8 a b Tryz.underlying5
theorem equalPlc (t : TypeId) (hs : Tryz.prog.underlying t = some (.struct (Tryz.prog.fieldsOf t))) (hh : Tryz.prog.stoodInHeld t = false) (hf : (Tryz.prog.fieldsOf t).toList.map (fun f => (f.type, f.offset, decide (f.name = "_"))) = [(5, 0, false), (3, 1, false), (3, 2, false), (3, 3, false)]) (x y : Plc) (w : World) : (Op.equalIn 10000 t (plcV x) (plcV y)).run Tryz.prog w = .ok (plcB x y) w := by
  unfold plcV
  rw [show (10000 : Nat) = 9999 + 1 from rfl, run_equalIn_struct w 9999 _ _ _ hs hh, eqFields_gen 9999 _ _ (fun f => plcO x y f.offset)]
  · have e : (Tryz.prog.fieldsOf t).toList.all (fun f => plcO x y f.offset) = ((Tryz.prog.fieldsOf t).toList.map (fun f => (f.type, f.offset, decide (f.name = "_")))).all (fun q => plcO x y q.2.1) := by
      rw [List.all_map]; rfl
    rw [e, hf]
    simp only [List.all_cons, List.all_nil, Bool.and_true]
    rfl
  · intro f hm
    have hq : (f.type, f.offset, decide (f.name = "_")) ∈ [((5 : TypeId), (0 : Nat), false), (3, 1, false), (3, 2, false), (3, 3, false)] := by
      rw [← hf]; exact List.mem_map.2 ⟨f, hm, rfl⟩
    simp only [List.mem_cons, List.not_mem_nil, or_false, Prod.mk.injEq, decide_eq_false_iff_not] at hq
    rcases hq with ⟨h1, h2, h3⟩ | ⟨h1, h2, h3⟩ | ⟨h1, h2, h3⟩ | ⟨h1, h2, h3⟩
    · rw [h1, h2]; exact ⟨h3, _, _, partL_0 _ _ _ _, partL_0 _ _ _ _, fun w => run_item8 _ _ w⟩
    · rw [h1, h2]; exact ⟨h3, _, _, partL_1 _ _ _ _, partL_1 _ _ _ _, fun w => run_item9 _ _ w⟩
    · rw [h1, h2]; exact ⟨h3, _, _, partL_2 _ _ _ _, partL_2 _ _ _ _, fun w => run_item9 _ _ w⟩
    · rw [h1, h2]; exact ⟨h3, _, _, partL_3 _ _ _ _, partL_3 _ _ _ _, fun w => run_item9 _ _ w⟩
theorem eqlRef (x y : Plc) (w : World) : (binOp .eql 91 (plcV x) (plcV y)).run Tryz.prog w = .ok (.bool (plcB x y)) w := by
  have h := equalPlc 91 (by kernel_rfl) (by kernel_rfl) (by kernel_rfl) x y w
  unfold plcV at *
  rw [run_eql_struct, h]; rfl
theorem neqRef (x y : Plc) (w : World) : (binOp .neq 91 (plcV x) (plcV y)).run Tryz.prog w = .ok (.bool !(plcB x y)) w := by
  have h := equalPlc 91 (by kernel_rfl) (by kernel_rfl) (by kernel_rfl) x y w
  unfold plcV at *
  rw [run_neq_struct, h]; rfl
theorem eqlWalk (x y : Plc) (w : World) : (binOp .eql 87 (plcV x) (plcV y)).run Tryz.prog w = .ok (.bool (plcB x y)) w := by
  have h := equalPlc 87 (by kernel_rfl) (by kernel_rfl) (by kernel_rfl) x y w
  unfold plcV at *
  rw [run_eql_struct, h]; rfl

theorem getD_plc {L : List Plc} {i : Nat} (h : i < L.length) : L.getD i plc0 = L[i] := by
  rw [List.getD_eq_getElem?_getD, List.getElem?_eq_getElem h]; rfl
theorem LR.cells {w wr : World} {g : Option Addr} {c : Nat} {L : List Plc} (h : LR w wr (.slice g L.length c) L) {i : Nat} (hi : i < L.length) : ∃ b, g = some ⟨b, 0, none⟩ ∧ wr.cell? ⟨b, i * 4, none⟩ = some (.int .u8 (L.getD i plc0).k) ∧ wr.cell? ⟨b, i * 4 + 1, none⟩ = some (.int .i64 (L.getD i plc0).a) ∧ wr.cell? ⟨b, i * 4 + 2, none⟩ = some (.int .i64 (L.getD i plc0).b) ∧ wr.cell? ⟨b, i * 4 + 3, none⟩ = some (.int .i64 (L.getD i plc0).c) := by
  have ho := h.own
  rcases ho.2 with ⟨_, h0⟩ | ⟨b, cp', cur, e, _⟩
  · omega
  · cases e
    rw [getD_plc hi]
    refine ⟨b, rfl, ?_, ?_, ?_, ?_⟩
    · rw [ho.cellAt (i * 4) (by omega)]
      have h0 := cellsK_at encPl_len L i hi 0 (by omega)
      rw [Nat.add_zero] at h0; exact h0
    · rw [ho.cellAt (i * 4 + 1) (by omega)]; exact cellsK_at encPl_len L i hi 1 (by omega)
    · rw [ho.cellAt (i * 4 + 2) (by omega)]; exact cellsK_at encPl_len L i hi 2 (by omega)
    · rw [ho.cellAt (i * 4 + 3) (by omega)]; exact cellsK_at encPl_len L i hi 3 (by omega)

set_option maxRecDepth 100000 in
set_option maxHeartbeats 8000000 in
/-- the document has it -/
theorem has16 {w : World} {l : List Pt} {ap : Option Addr} {cp : Nat} {G : List Tri3} {at_ : Option Addr} {ct : Nat} {p : Pt} {L : List Plc}
    (HPL : ∀ W, Below w.heap.size w W → Calls Tryz.prog 56 #[.slice ap l.length cp, .slice at_ G.length ct, .agg #[.float .f64 p.1, .float .f64 p.2]] W fun r w' => ∃ v, r = .returned v ∧ Hid (LR W w' v L)) (x : Plc) (hx : (L = [] ∧ x = ⟨4, 0, 0, 0⟩) ∨ x ∈ L) (hL : L.length ≤ 10000) :
    Calls Tryz.prog 52 #[.slice ap l.length cp, .slice at_ G.length ct, .agg #[.float .f64 p.1, .float .f64 p.2], plcV x] w fun r w' => r = .returned (.bool true) ∧ Below w.heap.size w w' := by
  have HP := Lib.hid HPL
  have HLN := Lib.hid hL
  obtain ⟨W0, hW0⟩ : ∃ W0 : World, W0 = (w.alloc (.cells #[.float .f64 p.1, .float .f64 p.2] 52)).alloc (.cells #[.int .u8 x.k, .int .i64 x.a, .int .i64 x.b, .int .i64 x.c] 91) := ⟨_, rfl⟩
  have HB0 : Hid (Below w.heap.size w W0) := by rw [hW0]; exact ((Below.refl _ w).alloc (Nat.le_refl _) _).alloc (by simp) _
  have HXB : Hid (∀ W, Below W0.heap.size W0 W → (W.cell? ⟨w.heap.size, 0, none⟩ = some (.float .f64 p.1) ∧ W.cell? ⟨w.heap.size, 1, none⟩ = some (.float .f64 p.2)) ∧ W.cell? ⟨w.heap.size + 1, 0, none⟩ = some (.int .u8 x.k) ∧ W.cell? ⟨w.heap.size + 1, 1, none⟩ = some (.int .i64 x.a) ∧ W.cell? ⟨w.heap.size + 1, 2, none⟩ = some (.int .i64 x.b) ∧ W.cell? ⟨w.heap.size + 1, 3, none⟩ = some (.int .i64 x.c)) := fun W hb => by
    have h2 := new2 w (.float .f64 p.1) (.float .f64 p.2) 52
    have h3 := (BoxN.new (w.alloc (.cells #[.float .f64 p.1, .float .f64 p.2] 52)) #[.int .u8 x.k, .int .i64 x.a, .int .i64 x.b, .int .i64 x.c] 91).c4
    have e1 : (w.alloc (.cells #[.float .f64 p.1, .float .f64 p.2] 52)).heap.size = w.heap.size + 1 := by simp
    rw [e1] at h3
    rw [hW0] at hb
    exact ⟨⟨cell_keep (cell_al h2.1 _) hb, cell_keep (cell_al h2.2 _) hb⟩, cell_keep h3.1 hb, cell_keep h3.2.1 hb, cell_keep h3.2.2.1 hb, cell_keep h3.2.2.2 hb⟩
  have HWW := Lib.hid hW0
  have HX := Lib.hid hx
  have hEQ : ∀ (a b c d : Int) (W : World), (binOp .eql 91 (.agg #[.int .u8 a, .int .i64 b, .int .i64 c, .int .i64 d]) (.agg #[.int .u8 x.k, .int .i64 x.a, .int .i64 x.b, .int .i64 x.c])).run Tryz.prog W = .ok (.bool (plcB ⟨a, b, c, d⟩ x)) W := fun a b c d W => eqlRef ⟨a, b, c, d⟩ x W
  have hE4 : ∀ (W : World), (binOp .eql 91 (.agg #[.int .u8 x.k, .int .i64 x.a, .int .i64 x.b, .int .i64 x.c]) (.agg #[.int .u8 4, .int .i64 0, .int .i64 0, .int .i64 0])).run Tryz.prog W = .ok (.bool (plcB x ⟨4, 0, 0, 0⟩)) W := fun W => eqlRef x ⟨4, 0, 0, 0⟩ W
  obtain ⟨⟨t3, t4⟩, x0, x1, x2, x3⟩ := HXB.out _ (Below.refl _ _)
  clear hx hL HPL hW0
  unfold plcV
  go_enter Tryz.func52, Tryz.ntmps52
  go_upto_region 1 with fail
  rw [← HWW.out]
  go_wp2_with (go_at_call 56; (with_reducible refine (HP.out _ HB0.out).mono ?_); rintro r w1 ⟨v1, rfl, HR⟩; obtain ⟨g1, c1, hv⟩ := HR.out.form; subst hv; have C1 := Lib.hid HR.out.low; clear t3 t4 x0 x1 x2 x3; obtain ⟨⟨t3, t4⟩, x0, x1, x2, x3⟩ := HXB.out _ C1.out)
  · rename ((L.length : Int) == 0) = true => hz0
    have hx4 : plcB x ⟨4, 0, 0, 0⟩ = true := by
      rcases HX.out with ⟨_, h⟩ | h
      · exact (plcB_iff _ _).2 h
      · have := List.length_pos_of_mem h
        simp only [beq_iff_eq] at hz0
        omega
    go_ret
    exact ⟨by simp [hx4], bseq HB0.out C1.out⟩
  · rename ((L.length : Int) == 0) = false => hz0
    have hxm : x ∈ L := by
      rcases HX.out with ⟨h, _⟩ | h
      · rw [h] at hz0; simp at hz0
      · exact h
    have HXM := Lib.hid hxm
    clear hz0 hxm HX hE4 t3 t4 x0 x1 x2 x3
    go_loopw [10] (fun s10 wx => ∃ i : Nat, i ≤ L.length ∧ s10 = .int .i64 i ∧ Hid (∀ j : Nat, j < i → L.getD j plc0 ≠ x) ∧ Hid (Below w1.heap.size w1 wx)) (fun s10 _ => L.length - (intOf s10).toNat)
    case atStart => exact ⟨0, Nat.zero_le _, rfl, fun j hj => by omega, Below.refl _ _⟩
    case round =>
      obtain ⟨i, hiL, rfl, HNO, HWX⟩ := hrel
      rename World => wx
      by_cases hlt : i < L.length
      · have hz : (i : Int) < (L.length : Int) := by omega
        have hi0 : (0 : Int) ≤ (i : Int) := by omega
        have hw1 : wrap64 ((i : Int) + 1) = (i : Int) + 1 := by have := HLN.out; unfold wrap64; omega
        obtain ⟨b, rfl, q0, q1, q2, q3⟩ := (HR.out.below HWX.out).cells hlt
        obtain ⟨_, x0, x1, x2, x3⟩ := HXB.out _ (bseq C1.out HWX.out)
        rcases hy : L.getD i plc0 with ⟨yk, ya, yb, yc⟩
        rw [hy] at q0 q1 q2 q3
        dsimp only at q0 q1 q2 q3
        have HY := Lib.hid hy
        clear hy
        have hE1 := fun W => hEQ yk ya yb yc W
        cases hb : plcB ⟨yk, ya, yb, yc⟩ x
        · simp only [hb] at hE1
          clear hEQ
          go_upto_region 7 with fail
          go_quiet (fail)
          have HW2 := Lib.hid (below_q15 HWX.out nq)
          go_wp2
          go_roundw
          case rel =>
            refine ⟨i + 1, by omega, by (try rw [hw1]); rfl, ?_, HW2.out⟩
            intro j hj
            by_cases e : j = i
            · subst e
              rw [HY.out]
              intro h
              rw [(plcB_iff _ _).2 h] at hb
              cases hb
            · exact HNO.out j (by omega)
          case measure => (try rw [hw1]); simp only [intOf]; omega
        · simp only [hb] at hE1
          clear hEQ
          go_upto_region 7 with fail
          go_quiet (fail)
          have HW2 := Lib.hid (below_q15 HWX.out nq)
          go_wp2
          go_ret
          exact ⟨rfl, bseq HB0.out (bseq C1.out HW2.out)⟩
      · exfalso
        obtain ⟨j, hj, e⟩ := List.mem_iff_getElem.1 HXM.out
        exact HNO.out j (by omega) ((getD_plc hj).trans e)

end Go.Proofs.YtdoaniccefdkaaaGreatDoor
