/- Part of the proof. No conditions. -/
import Derived.Test.YtdoaniccefdkaaaGreatDoorZD
import Derived.Test.YtdoaniccefdkaaaGreatDoorZE
import Derived.Test.YtdoaniccefdkaaaGreatDoorZF
import Derived.ArgAppend
import Derived.Maps.AppendAt

set_option linter.all false
/- remove.ears: the walk. -/
namespace Go.Proofs.YtdoaniccefdkaaaGreatDoor
open Go.RowKit Tvf Go.Maps Go.WideMaps


/-- the closure's box, and the row of triangles in it -/
structure EInv (B : Nat) (W : World) (v : Value) (l : List Tri3) : Prop where
  box : BoxN 23 W B #[v]
  own : W.ownsRow (B + 1) 45 3 v l.length (cellsK encT l)
theorem EInv.below {B : Nat} {W W' : World} {v : Value} {l : List Tri3} (h : EInv B W v l) (hb : Below W.heap.size W W') : EInv B W' v l :=
  ⟨h.box.below hb, ownsRow_same h.own fun g hg => hb.block g (h.own.lt g hg).2⟩
theorem EInv.push {B : Nat} {W W2 : World} {v v' : Value} {l : List Tri3} {t : Tri3} {o : Obj} (h : EInv B W v l) (hown : W2.ownsRow (B + 1) 45 3 v' (l.length + 1) (cellsK encT l ++ encT t)) (hg : (W.alloc o).grownBy W2 v.ownBlock) :
    BoxN 23 W2 B #[v] ∧ EInv B (W2.setCell ⟨B, 0, none⟩ v') v' (l ++ [t]) ∧ Below B W (W2.setCell ⟨B, 0, none⟩ v') ∧ Stay (fun i => i = B ∨ v.ownBlock = some i) W (W2.setCell ⟨B, 0, none⟩ v') := by
  have hne : v.ownBlock ≠ some B := fun e => by have := (h.own.lt B e).1; omega
  have hlt := h.box.lt
  have hbox : BoxN 23 W2 B #[v] := (hg.block B (by simp; omega) (fun e => hne e.symm)).trans (h.box.al o)
  refine ⟨hbox, ⟨hbox.set 0 v' (by simp), ?_⟩, ?_, ?_⟩
  · rw [List.length_append, cellsK_append, cellsK_one]
    exact ownsRow_same hown (fun g hg' => Below.heap_setCell _ _ _ _ (by have := (hown.lt g hg').1; show g ≠ B; omega))
  · refine Below.setCell (p := ⟨B, 0, none⟩) ?_ (Nat.le_refl B) _
    refine ((Below.refl B W).alloc (Nat.le_of_lt hlt) o).grown hg (by simp; omega) (fun j hj => ?_)
    have := (h.own.lt j hj).1
    omega
  · have hsz := hg.size
    simp only [World.size_alloc] at hsz
    refine ⟨hg.os, hg.tape, hg.output, by rw [World.size_setCell]; omega, fun i hi hG => ?_⟩
    rw [Below.heap_setCell _ _ _ _ (fun e => hG (.inl e)), hg.block i (by simp; omega) (fun e => hG (.inr e.symm))]
    exact ((Below.refl _ _).alloc (Nat.le_refl _) o).block i hi

set_option maxRecDepth 100000 in
set_option maxHeartbeats 2000000 in
theorem come_walk {W : World} {B : Nat} {v : Value} {l : List Tri3} (h : EInv B W v l) (hl : l.length ≤ 1000000) (a b c : Int) :
    Calls Tryz.prog 173 #[.int .i64 a, .int .i64 b, .int .i64 c, .pointer (some ⟨B, 0, none⟩)] W fun r w' => r = .returned (.tuple #[]) ∧ ∃ v', EInv B w' v' (l ++ [(a, b, c)]) ∧ Below B W w' ∧ Stay (fun i => i = B ∨ v.ownBlock = some i) W w' ∧ (∀ g, g < W.heap.size → v.ownBlock ≠ some g → v'.ownBlock ≠ some g) := by
  obtain ⟨i0, hi, hz0, hz1, hz2⟩ := info_parts infoTri
  have HE := Lib.hid h
  have HL := Lib.hid hl
  have c1 := h.box.c 0
  have c1a := fun o => (h.box.al o).c 0
  simp only [List.getElem?_toArray, List.getElem?_cons_zero] at c1 c1a
  clear h hl
  go_enter Tryz.func173, Tryz.ntmps173
  go_wp2_with (first | (at_builtin; refine wpList_append_own_at _ rfl _ _ 23 rfl (B + 1) 45 i0 (.agg #[.int .i64 0, .int .i64 0, .int .i64 0]) 3 24 Tryz.underlying23 hi hz0 hz1 hz2 rfl (by decide) v l.length (cellsK encT l) rfl (HE.out.own.alloc _) ⟨W.heap.size, 0, none⟩ 1 1 (encT (a, b, c)) rfl ?qc1 ?qc2 ?qc3 ?qc4 ?qc5 ?qc6 ?_) | go_in)
  case qc1 => rfl
  case qc2 => exact cells_new W (encT (a, b, c)) 45
  case qc3 => exact encT_one _
  case qc4 => have := HL.out; unfold maxLen; omega
  case qc5 => have := HL.out; omega
  case qc6 => have := HE.out.box.lt; simp; omega
  intro v' w2 hown hgrow _ hloc
  obtain ⟨g', cap', rfl⟩ : ∃ g' cap', v' = .slice (some ⟨g', 0, none⟩) (l.length + 1) cap' := by
    rcases hown.2 with ⟨_, h0⟩ | ⟨g', c', cur, rfl, _⟩
    · omega
    · exact ⟨g', c', rfl⟩
  have HPU := Lib.hid (HE.out.push hown hgrow)
  have HLO : Hid (∀ g, g < W.heap.size → v.ownBlock ≠ some g → (Value.slice (some ⟨g', 0, none⟩) (l.length + 1) cap').ownBlock ≠ some g) := fun g hg hne e => by
    rcases hloc with e2 | e2
    · exact hne (e2.symm.trans e)
    · rw [e2] at e; simp at e; omega
  have c2 := HPU.out.1.c 0
  have cf := HPU.out.1.fz 0
  simp only [List.getElem?_toArray, List.getElem?_cons_zero] at c2
  clear hown hgrow c1 c1a hloc
  go_wp2
  refine bodyPost_end (results_none rfl _ _ _) rfl ?_
  exact ⟨rfl, _, HPU.out.2.1, HPU.out.2.2.1, HPU.out.2.2.2, HLO.out⟩

/-- append of what is behind the ear's middle to what is ahead of it -/
theorem cut_run {w : World} {g cap : Nat} {R : List Int} (hr : NCells w (some ⟨g, 0, none⟩) R) (hR : R.length ≤ 1000000) {k : Nat} (hk : k + 1 < R.length) (ty : TypeId) :
    ∃ g' c' w', (Builtin.append_ #[72, 72] ty #[.slice (some ⟨g, 0, none⟩) k k, .slice (some ⟨g, k + 1, none⟩) (R.length - (k + 1)) (cap - (k + 1))]).run Tryz.prog w = .ok (.slice (some ⟨g', 0, none⟩) (R.length - 1) c') w' ∧ R.length - 1 ≤ c' ∧ Hid (NCells w' (some ⟨g', 0, none⟩) (R.take k ++ R.drop (k + 1))) ∧ Hid (Below w.heap.size w w') ∧ Hid (w.heap.size ≤ g') := by
  obtain ⟨i0, hi, hz0, hz1, hz2⟩ := info_parts infoInt
  obtain ⟨g2, e, hlt, hc⟩ := hr (by omega)
  cases e
  obtain ⟨v', w', hrun, ho, hg⟩ := run_append_arg_grows (P := Tryz.prog) w 72 ty 3 i0 (.int .i64 0) 1 8 Tryz.underlying72 hi hz0 hz1 hz2 rfl (by decide) ⟨g, 0, none⟩ k k ((R.take k).map (Value.int .i64)) (by rw [List.length_map, List.length_take]; omega)
    (fun j u hu => by
      rw [List.getElem?_map, List.getElem?_take] at hu
      split at hu
      · rename_i hj
        have hjl : j < R.length := by omega
        rw [List.getElem?_eq_getElem hjl] at hu
        simp only [Option.map_some, Option.some.injEq] at hu
        subst hu
        have := hc j hjl
        rw [List.getD_eq_getElem?_getD, List.getElem?_eq_getElem hjl] at this
        rcases j with _ | j <;> simpa [Addr.add] using this
      · simp at hu)
    ⟨g, k + 1, none⟩ (R.length - (k + 1)) (cap - (k + 1)) ((R.drop (k + 1)).map (Value.int .i64)) (by rw [List.length_map, List.length_drop]; omega)
    (fun j u hu => by
      rw [List.getElem?_map, List.getElem?_drop] at hu
      by_cases hjl : k + 1 + j < R.length
      · rw [List.getElem?_eq_getElem hjl] at hu
        simp only [Option.map_some, Option.some.injEq] at hu
        subst hu
        have := hc (k + 1 + j) hjl
        rw [List.getD_eq_getElem?_getD, List.getElem?_eq_getElem hjl] at this
        rcases j with _ | j <;> simpa [Addr.add] using this
      · rw [List.getElem?_eq_none (by omega)] at hu; simp at hu)
    (by omega) (by unfold maxLen; omega) (by omega)
  have hn : k + (R.length - (k + 1)) = R.length - 1 := by omega
  rw [hn] at ho
  have hcut : (R.take k).map (Value.int .i64) ++ (R.drop (k + 1)).map (Value.int .i64) = (R.take k ++ R.drop (k + 1)).map (Value.int .i64) := by rw [List.map_append]
  rw [hcut] at ho
  have hlen : (R.take k ++ R.drop (k + 1)).length = R.length - 1 := by rw [List.length_append, List.length_take, List.length_drop]; omega
  rcases ho.2 with ⟨_, h0⟩ | ⟨g', c', cur, rfl, _, _, hle, _⟩
  · omega
  · refine ⟨g', c', w', hrun, hle, fun _ => ⟨g', rfl, (ho.lt g' rfl).2, fun i hi => ?_⟩, ⟨hg.os, hg.tape, hg.output, hg.size, fun i hi => hg.block i hi (by simp)⟩, (ho.lt g' rfl).1⟩
    rw [ho.cellAt i (by omega), List.getElem?_map, List.getElem?_eq_getElem hi, List.getD_eq_getElem?_getD, List.getElem?_eq_getElem hi]
    rfl

end Go.Proofs.YtdoaniccefdkaaaGreatDoor

/- remove.ears: the walk. -/
namespace Go.Proofs.YtdoaniccefdkaaaGreatDoor
open Go.RowKit Tvf Go.Maps Go.WideMaps

/-- an ear is found, and its middle is not the ring's last -/
def EarOk (M : MeshM) (R : List Int) : Prop := earAt M R + 2 < R.length
theorem earFrom_le (M : MeshM) (R : List Int) : ∀ f i, earFrom M R f i ≤ i + f
  | 0, i => Nat.le_refl _
  | f + 1, i => by
    unfold earFrom
    split
    · omega
    · have := earFrom_le M R f (i + 1); omega
theorem earFrom_ge (M : MeshM) (R : List Int) : ∀ f i, i ≤ earFrom M R f i
  | 0, i => Nat.le_refl _
  | f + 1, i => by
    unfold earFrom
    split
    · omega
    · have := earFrom_ge M R f (i + 1); omega

/-- an append in a region that draws its order, as an equation -/
theorem step_run_appendJ {P : Program} {w : World} {ops : Array Oper} {o : Oper} {a : Act} {K : Act → World → Prop} {Q : Exit → Act → World → Prop} {E : Prop} (hgd : o.guard = none) (s x : Operand) (t : TypeId)
    (hop : o.op = Op.call { callee := Callee.builtin Builtin.append, args := #[s, x], argTypes := #[t, t] }) (v y : Value) (hs : a.eval s = v) (hx : a.eval x = y) (v' : Value) (w' : World) (hrun : (Builtin.append_ #[t, t] o.type #[v, y]).run P w = .ok v' w')
    (hK : K (a.put o.dst v') w') : if Region.wanted o (yielded ops a.tmps) = true then Oper.wp P o a w K Q else E := by
  have hw : Region.wanted o (yielded ops a.tmps) = true := by simp [Region.wanted, hgd]
  rw [if_pos hw]
  unfold Oper.wp
  simp [execOp, hop, resolve, invoke, builtin, hs, hx, hrun, Result.andThen]
  exact hK

theorem earFrom_hit {M : MeshM} {R : List Int} {f i : Nat} (h : earB M R i = true) : earFrom M R (f + 1) i = i := by unfold earFrom; rw [if_pos h]
theorem earFrom_miss {M : MeshM} {R : List Int} {f i : Nat} (h : earB M R i = false) : earFrom M R (f + 1) i = earFrom M R f (i + 1) := by
  show (if earB M R i = true then i else _) = _
  rw [if_neg (by rw [h]; simp)]
theorem step_cut {M : MeshM} {s : ES} (h : EarOk M s.R) : esStep M s = ⟨s.R.take (earAt M s.R + 1) ++ s.R.drop (earAt M s.R + 1 + 1), s.out ++ [(s.R.getD (earAt M s.R) 0, s.R.getD (earAt M s.R + 1) 0, s.R.getD (earAt M s.R + 2) 0)]⟩ := by
  unfold EarOk at h
  unfold esStep cutR earT
  rw [Nat.mod_eq_of_lt (show earAt M s.R + 1 < s.R.length by omega), Nat.mod_eq_of_lt (show earAt M s.R + 2 < s.R.length by omega)]

set_option maxRecDepth 100000 in
set_option maxHeartbeats 8000000 in
theorem ears_walk {w : World} {mb n : Nat} {M : MeshM} {F : Nat → Prop} (h : MeshAt w mb n M F) (h64 : ∀ p, p ∈ M.P → pt64 p) {R : List Int} {ad : Option Addr} {cap : Nat} (hr : NCells w ad R) (hcap : R.length ≤ cap) (h3 : 3 ≤ R.length) (hR : R.length ≤ 1000000) (hok : ∀ k, k < R.length - 3 → EarOk M (esRun M ⟨R, []⟩ k).R) :
    Calls Tryz.prog 133 #[.pointer (some ⟨mb, 0, none⟩), .slice ad R.length cap] w fun r w' => ∃ v, r = .returned (.tuple #[v, .bool true]) ∧ w'.ownsRow (w.heap.size + 1) 45 3 v (earsL M R).length (cellsK encT (earsL M R)) ∧ Below w.heap.size w w' := by
  have HEAR : Hid (∀ W ad' S cap' i, Below w.heap.size w W → NCells W ad' S → S.length ≤ 1000000 → i < S.length → Calls Tryz.prog 174 #[.pointer (some ⟨mb, 0, none⟩), .slice ad' S.length cap', .int .i64 (i : Nat)] W fun r w' => r = .returned (.bool (earB M S i)) ∧ Below W.heap.size W w') :=
    fun W ad' S cap' i hb hn hl hi => ear_walk (h.below hb) h64 hn hl hi
  have HLEN := Lib.hid (esRun_len M R)
  have HOUT := Lib.hid (esRun_out M R)
  have HOK := Lib.hid hok
  have HNC := Lib.hid hr
  have HRL := Lib.hid hR
  have HR3 := Lib.hid h3
  have HCAP := Lib.hid hcap
  have HEL : Hid (earsL M R = (esRun M ⟨R, []⟩ (R.length - 3)).out ++ [((esRun M ⟨R, []⟩ (R.length - 3)).R.getD 0 0, (esRun M ⟨R, []⟩ (R.length - 3)).R.getD 1 0, (esRun M ⟨R, []⟩ (R.length - 3)).R.getD 2 0)]) := rfl
  obtain ⟨RUN, HRUN⟩ : ∃ RUN : Nat → ES, Hid (RUN = esRun M ⟨R, []⟩) := ⟨_, rfl⟩
  have HRS : Hid (∀ k, RUN (k + 1) = esStep M (RUN k)) := fun k => by rw [HRUN.out]; rfl
  have HR0 : Hid (RUN 0 = ⟨R, []⟩) := by unfold Hid; rw [HRUN.out]; rfl
  rw [← HRUN.out] at HLEN HOUT HOK HEL
  clear HRUN h h64 hr hR h3 hok hcap
  generalize earsL M R = EL at *
  have B0 : Hid (Below w.heap.size w (w.alloc (.cells #[.slice none 0 0] 23))) := (Below.refl _ _).alloc (Nat.le_refl _) _
  have E0 : Hid (EInv w.heap.size (w.alloc (.cells #[.slice none 0 0] 23)) (.slice none 0 0) []) := ⟨BoxN.new _ _ _, World.ownsRow_nil _ _ _ _⟩
  go_enter Tryz.func133, Tryz.ntmps133
  go_wp2
  go_loopg [1, 8] (R.length - 3) (fun gk s1 s8 wr => ∃ (k : Nat) (g : Nat) (c : Nat) (v : Value), k + gk = R.length - 3 ∧ s1 = .slice (some ⟨g, 0, none⟩) (RUN k).R.length c ∧ s8 = .int .i64 (RUN k).R.length ∧ Hid ((RUN k).R.length ≤ c ∧ NCells wr (some ⟨g, 0, none⟩) (RUN k).R) ∧ Hid (EInv w.heap.size wr v (RUN k).out) ∧ Hid (g ≠ w.heap.size ∧ v.ownBlock ≠ some g) ∧ Hid (Below w.heap.size w wr))
  case atStart =>
    obtain ⟨g, e, hg, _⟩ := HNC.out (by have := HR3.out; omega)
    refine ⟨0, g, cap, .slice none 0 0, by omega, ?_, ?_, ?_, ?_, ⟨by omega, by simp [Value.ownBlock]⟩, B0.out⟩
    · rw [HR0.out, e]
    · rw [HR0.out]
    · rw [HR0.out]; rw [e] at HNC; exact ⟨HCAP.out, HNC.out.below ((Below.refl _ _).alloc (Nat.le_refl _) _)⟩
    · rw [HR0.out]; exact E0.out
  case round =>
    obtain ⟨k, g, c, v, hkg, rfl, rfl, HN, HE, HNE, HB⟩ := hrel
    have HLk := Lib.hid (HLEN.out k (by omega))
    have HOk := Lib.hid (HOUT.out k)
    by_cases hk : k = R.length - 3
    · have h3l : (RUN k).R.length = 3 := by have := HLk.out; have := HR3.out; omega
      obtain ⟨g2, e2, hgl, hcc⟩ := HN.out.2 (by omega)
      cases e2
      have q0 := hcc 0 (by omega)
      have q1 := hcc 1 (by omega)
      have q2 := hcc 2 (by omega)
      have HEK : Hid (EL = (RUN k).out ++ [((RUN k).R.getD 0 0, (RUN k).R.getD 1 0, (RUN k).R.getD 2 0)]) := by unfold Hid; rw [HEL.out, hk]
      rw [h3l]
      generalize (RUN k).R.getD 0 0 = ra at *
      generalize (RUN k).R.getD 1 0 = rb at *
      generalize (RUN k).R.getD 2 0 = rc at *
      have HCM := Lib.hid (come_walk (W := wr.drew) (HE.out.below (Below.refl _ _).drew) (by have := HOk.out; have := HRL.out; omega) ra rb rc)
      have HKC : Hid (∀ W, Stay (fun i => i = w.heap.size ∨ v.ownBlock = some i) wr.drew W → W.cell? ⟨g, 0, none⟩ = some (.int .i64 ra) ∧ W.cell? ⟨g, 1, none⟩ = some (.int .i64 rb) ∧ W.cell? ⟨g, 2, none⟩ = some (.int .i64 rc)) := fun W hs =>
        have hb := hs.block g hgl (fun e => e.elim HNE.out.1 HNE.out.2)
        ⟨(World.cell?_of_block hb).trans q0, (World.cell?_of_block hb).trans q1, (World.cell?_of_block hb).trans q2⟩
      have n0 : wr.drew.cell? ⟨g, 0, none⟩ = some (.int .i64 ra) ∧ wr.drew.cell? ⟨g, 1, none⟩ = some (.int .i64 rb) ∧ wr.drew.cell? ⟨g, 2, none⟩ = some (.int .i64 rc) := ⟨q0, q1, q2⟩
      clear hcc HOK HLEN HOUT HRS HEAR q0 q1 q2
      go_wp2
      go_region_held3 (fun w' => w'.cell? ⟨g, 0, none⟩ = some (.int .i64 ra) ∧ w'.cell? ⟨g, 1, none⟩ = some (.int .i64 rb) ∧ w'.cell? ⟨g, 2, none⟩ = some (.int .i64 rc)) (first | with_reducible exact n0 | with_reducible exact n1)
        (first | (go_at_call 173; with_reducible refine HCM.out.mono ?_; rintro r w2 ⟨rfl, v', HE2, hb2, hst2, hof2⟩; have n1 := HKC.out _ hst2))
      have bx := HE2.box.c 0
      simp only [List.getElem?_toArray, List.getElem?_cons_zero] at bx
      have HE2' := Lib.hid HE2
      have HB2 := Lib.hid (HB.out.drew.trans hb2)
      clear HE2 hb2 hst2 hof2 n0 n1 HKC
      go_wp2
      go_returns
      exact ⟨v', rfl, by rw [HEK.out]; exact HE2'.out.own, HB2.out⟩
    · have hkl : k < R.length - 3 := by omega
      obtain ⟨gk', rfl⟩ : ∃ x, gk = x + 1 := ⟨gk - 1, by omega⟩
      have HK1 : Hid (k + 1 + gk' = R.length - 3) := by unfold Hid; omega
      have HEO : Hid (earAt M (RUN k).R + 2 < (RUN k).R.length) := HOK.out k hkl
      have HRK : Hid (RUN (k + 1) = ⟨(RUN k).R.take (earAt M (RUN k).R + 1) ++ (RUN k).R.drop (earAt M (RUN k).R + 1 + 1), (RUN k).out ++ [((RUN k).R.getD (earAt M (RUN k).R) 0, (RUN k).R.getD (earAt M (RUN k).R + 1) 0, (RUN k).R.getD (earAt M (RUN k).R + 2) 0)]⟩) := by
        unfold Hid; rw [HRS.out k]; exact step_cut (HOK.out k hkl)
      have HLK1 := Lib.hid (HLEN.out (k + 1) (by omega))
      obtain ⟨N, hN⟩ : ∃ N, Hid ((RUN k).R.length = N) := ⟨_, rfl⟩
      have hN3 : (3 : Int) < (N : Int) := by have := hN.out; have := HLk.out; omega
      have HNL : Hid (N ≤ 1000000) := by have := hN.out; have := HLk.out; have := HRL.out; unfold Hid; omega
      have HOL : Hid ((RUN k).out.length ≤ 1000000) := by have := HOk.out; have := HRL.out; unfold Hid; omega
      rw [hN.out] at HEO HN ⊢
      have HNK : Hid ((RUN (k + 1)).R.length = N - 1) := by have := hN.out; have := HLk.out; have := HLK1.out; unfold Hid; omega
      clear HOK HEL HLEN HOUT HRS hk hkg hkl HLk HOk HLK1
      obtain ⟨wo, rfl⟩ : ∃ x, x = wr := ⟨_, rfl⟩
      go_wp2
      go_loopw [9] (fun s9 wi => ∃ i : Nat, i ≤ N ∧ s9 = .int .i64 i ∧ Hid (earAt M (RUN k).R = earFrom M (RUN k).R (N - i) i) ∧ Hid (Below wo.heap.size wo wi)) (fun s9 _ => N - (intOf s9).toNat)
      case atStart => exact ⟨0, Nat.zero_le _, rfl, by unfold Hid earAt; rw [hN.out]; rfl, Below.refl _ _⟩
      case round =>
        obtain ⟨i, hi, rfl, HEF, HBI⟩ := hrel
        by_cases hlt : i < N
        · have HBW : Hid (Below w.heap.size w wr) := HB.out.trans (HBI.out.mono HB.out.size)
          have HEi := Lib.hid (HEAR.out wr (some ⟨g, 0, none⟩) (RUN k).R c i HBW.out (HN.out.2.below HBI.out) (by rw [hN.out]; exact HNL.out) (by rw [hN.out]; exact hlt))
          rw [hN.out] at HEi
          have hltz : (i : Int) < (N : Int) := by omega
          have HLT := Lib.hid hlt
          have e1 : N - i = (N - (i + 1)) + 1 := by omega
          cases hq : earB M (RUN k).R i
          · rw [hq] at HEi
            have HEF2 : Hid (earAt M (RUN k).R = earFrom M (RUN k).R (N - (i + 1)) (i + 1)) := by unfold Hid; rw [HEF.out, e1, earFrom_miss hq]
            clear HEF hq e1 hlt
            go_wp2_with (go_at_call 174; with_reducible refine HEi.out.mono ?_; rintro r w2 ⟨rfl, hb2⟩)
            go_roundw
            case rel => exact ⟨i + 1, by have := HLT.out; omega, by (first | rfl | rw [wrapJ (by have := HLT.out; have := HNL.out; omega)]), HEF2.out, HBI.out.trans (hb2.mono HBI.out.size)⟩
            case measure => have := HLT.out; have := HNL.out; first | (simp [intOf]; omega) | (rw [wrapJ (by omega)]; simp [intOf]; omega)
          · rw [hq] at HEi
            have HAT : Hid (earAt M (RUN k).R = i) := by unfold Hid; rw [HEF.out, e1, earFrom_hit hq]
            rw [HAT.out] at HEO HRK
            clear HEF hq e1 hlt HAT
            have hne : ¬(i : Int) = (N : Int) := by omega
            have hi2 : i + 2 < N := HEO.out
            obtain ⟨j, hj⟩ : ∃ j, Hid (i + 1 = j) := ⟨_, rfl⟩
            obtain ⟨l, hl⟩ : ∃ l, Hid (i + 2 = l) := ⟨_, rfl⟩
            obtain ⟨p, hp⟩ : ∃ p, Hid (j + 1 = p) := ⟨_, rfl⟩
            have HJL : Hid (j < N ∧ l < N ∧ p < N ∧ N ≤ 1000000) := by have := hj.out; have := hl.out; have := hp.out; have := HNL.out; unfold Hid; omega
            have hm1 : (wrap64 ((i : Int) + 1)).tmod (N : Int) = (j : Int) := by
              have := mod_at (k := i) (s := 1) (n := N) (by have := HNL.out; omega)
              rw [Nat.mod_eq_of_lt (by omega), hj.out] at this; exact this
            have hr2 : ((i : Int) + 2).tmod (N : Int) = (l : Int) := by
              have := mod_at (k := i) (s := 2) (n := N) (by have := HNL.out; omega)
              rw [Nat.mod_eq_of_lt (by omega), hl.out, show wrap64 ((i : Int) + ((2 : Nat) : Int)) = (i : Int) + 2 by have := HNL.out; unfold wrap64; omega] at this; exact this
            have hNz : ¬(N : Int) = 0 := by omega
            rw [hj.out, hl.out, hp.out] at HRK
            obtain ⟨g2, e2, hgl, hcc⟩ := HN.out.2 (by rw [hN.out]; omega)
            cases e2
            rw [hN.out] at hcc
            have q0 := hcc i (by omega)
            have q1 := hcc j HJL.out.1
            have q2 := hcc l HJL.out.2.1
            have HGL := Lib.hid hgl
            clear hcc
            go_wp2_with (go_at_call 174; with_reducible refine HEi.out.mono ?_; rintro r w2 ⟨rfl, hb2⟩)
            have HBX : Hid (Below wo.heap.size wo w2) := HBI.out.trans (hb2.mono HBI.out.size)
            clear hb2 HEi HBI hm1
            generalize (RUN k).R.getD i 0 = ra at *
            generalize (RUN k).R.getD j 0 = rb at *
            generalize (RUN k).R.getD l 0 = rc at *
            have HCM := Lib.hid (come_walk (W := w2.drew) ((HE.out.below HBX.out).below (Below.refl _ _).drew) HOL.out ra rb rc)
            have HKC : Hid (∀ W, Stay (fun i => i = w.heap.size ∨ v.ownBlock = some i) w2.drew W → W.cell? ⟨g, i, none⟩ = some (.int .i64 ra) ∧ W.cell? ⟨g, j, none⟩ = some (.int .i64 rb) ∧ W.cell? ⟨g, l, none⟩ = some (.int .i64 rc)) := fun W hs =>
              have hb := (hs.block g (Nat.lt_of_lt_of_le HGL.out HBX.out.size) (fun e => e.elim HNE.out.1 HNE.out.2)).trans (HBX.out.block g HGL.out)
              ⟨(World.cell?_of_block hb).trans q0, (World.cell?_of_block hb).trans q1, (World.cell?_of_block hb).trans q2⟩
            have n0 : w2.drew.cell? ⟨g, i, none⟩ = some (.int .i64 ra) ∧ w2.drew.cell? ⟨g, j, none⟩ = some (.int .i64 rb) ∧ w2.drew.cell? ⟨g, l, none⟩ = some (.int .i64 rc) :=
              ⟨(HBX.out.cell (p := ⟨g, i, none⟩) HGL.out).trans q0, (HBX.out.cell (p := ⟨g, j, none⟩) HGL.out).trans q1, (HBX.out.cell (p := ⟨g, l, none⟩) HGL.out).trans q2⟩
            have HNS : Hid (∀ W, Stay (fun i => i = w.heap.size ∨ v.ownBlock = some i) w2.drew W → NCells W (some ⟨g, 0, none⟩) (RUN k).R) := fun W hs =>
              ((HN.out.2.below HBX.out).below (Below.refl _ _).drew).stay hs (fun g' e => by cases e; exact fun e => e.elim HNE.out.1 HNE.out.2)
            clear q0 q1 q2
            have hw2 : IntKind.i64.wrap ((i : Int) + 2) = (i : Int) + 2 := wrap_smJ (by omega) (by have := HNL.out; omega)
            have hw3 : IntKind.i64.wrap (l : Int) = (l : Int) := wrap_smJ (by omega) (by have := HJL.out; omega)
            have hw4 : IntKind.i64.wrap (j : Int) = (j : Int) := wrap_smJ (by omega) (by have := HJL.out; omega)
            have hnn : ¬N = 0 := by omega
            have hz0 : (0 : Int) ≤ (i : Int) := by omega
            have hz1 : (0 : Int) ≤ (j : Int) := by omega
            have hz2 : (0 : Int) ≤ (l : Int) := by omega
            have hz4 : (j : Int) < (N : Int) := by have := HJL.out; omega
            have hz5 : (l : Int) < (N : Int) := by have := HJL.out; omega
            go_region_held3 (fun w' => w'.cell? ⟨g, i, none⟩ = some (.int .i64 ra) ∧ w'.cell? ⟨g, j, none⟩ = some (.int .i64 rb) ∧ w'.cell? ⟨g, l, none⟩ = some (.int .i64 rc)) (first | with_reducible exact n0 | with_reducible exact n1)
              (first | (go_at_call 173; with_reducible refine HCM.out.mono ?_; rintro r w3 ⟨rfl, v', HE3, hb3, hst3, hof3⟩; have n1 := HKC.out _ hst3))
            have HE3' := Lib.hid HE3
            have HB3 : Hid (Below w.heap.size w w3) := (HB.out.trans (HBX.out.mono HB.out.size)).drew.trans hb3
            clear HE3 hb3 hof3
            clear HKC n0 n1 hr2 hw2 hw3 hw4 hnn hz2 hz5
            have hw5 : wrap64 ((j : Int) + 1) = (p : Int) := by have := hp.out; have := HJL.out; unfold wrap64; omega
            have hz6 : (j : Int) ≤ (c : Int) := by have := HJL.out; have := HN.out.1; omega
            have hz7 : (p : Int) ≤ (N : Int) := by have := HJL.out; omega
            have hz8 : (0 : Int) ≤ (p : Int) := by omega
            have hz9 : (N : Int) ≤ (c : Int) := by have := HN.out.1; omega
            have HCUT : Hid (∃ g' c' W4, (Builtin.append_ #[72, 72] 72 #[.slice (some ⟨g, 0, none⟩) j j, .slice (some ⟨g, p, none⟩) (N - p) (c - p)]).run Tryz.prog w3.drew = .ok (.slice (some ⟨g', 0, none⟩) (N - 1) c') W4 ∧ N - 1 ≤ c' ∧ Hid (NCells W4 (some ⟨g', 0, none⟩) ((RUN k).R.take j ++ (RUN k).R.drop p)) ∧ Hid (Below w3.drew.heap.size w3.drew W4) ∧ Hid (w3.drew.heap.size ≤ g')) := by
              have := cut_run (cap := c) ((HNS.out _ hst3).below (Below.refl _ _).drew) (by rw [hN.out]; exact HNL.out) (k := j) (by rw [hN.out]; have := hp.out; have := HJL.out; omega) 72
              rw [hN.out, hp.out] at this
              exact this
            clear hst3 HNS hw5
            have hw6 : IntKind.i64.wrap ((j : Int) + 1) = (p : Int) := by rw [wrap_smJ (by omega) (by have := HJL.out; omega)]; have := hp.out; omega
            have hza : (j : Int) ≤ (N : Int) := by omega
            have hzb : ¬p = c := by have := HJL.out; omega
            have hzc : ¬c = p := by have := HJL.out; omega
            have hzd : ¬(p : Int) = (c : Int) := by omega
            have hze : ¬(c : Int) = (p : Int) := by omega
            obtain ⟨g', c', W4, hr4, hc4, HN4, HB4, HG4⟩ := HCUT.out
            clear HCUT
            go_wp2_with fail
            go_region_held3 (fun w' => True) (first | trivial) (first | (refine step_run_appendJ rfl _ _ 72 rfl (.slice (some ⟨g, 0, none⟩) j j) (.slice (some ⟨g, p, none⟩) (N - p) (c - p)) rfl rfl _ _ hr4 ?_))
            go_wp2
            go_roundg gk'
            case rel =>
              refine ⟨k + 1, g', c', v', HK1.out, ?_, ?_, ⟨?_, ?_⟩, ?_, ⟨?_, ?_⟩, ?_⟩
              · rw [HNK.out]
              · rw [HNK.out]
              · rw [HNK.out]; exact hc4
              · rw [HRK.out]; exact HN4.out
              · rw [HRK.out]; exact (HE3'.out.below (Below.refl _ _).drew).below HB4.out
              · have := HG4.out; have := HB3.out.size; have := HE3'.out.box.lt; simp at *; omega
              · intro e
                have := (HE3'.out.own.lt _ e).2
                have := HG4.out
                simp at this
                omega
              · exact HB3.out.drew.trans (HB4.out.mono HB3.out.size)
            case measure => exact Nat.lt_succ_self _
        · exfalso
          have e : i = N := by omega
          subst e
          have h1 := HEF.out
          have h2 := HEO.out
          rw [Nat.sub_self] at h1
          have : earFrom M (RUN k).R 0 i = i := rfl
          omega

end Go.Proofs.YtdoaniccefdkaaaGreatDoor

/- remove.Ring: the walk. -/
namespace Go.Proofs.YtdoaniccefdkaaaGreatDoor
open Go.RowKit Tvf Go.Maps Go.WideMaps

theorem getD_snoc0 {l : List Int} {c : Int} (h : 0 < l.length) : (l ++ [c]).getD 0 0 = l.getD 0 0 := by
  rw [List.getD_eq_getElem?_getD, List.getElem?_append_left h, ← List.getD_eq_getElem?_getD]
theorem ints_lit (w : World) (x : Int) (hx : i64ok x) (B : Nat) (hB : B ≤ w.heap.size) : (w.alloc (.cells #[.int .i64 x] 3)).ownsInts B 3 .i64 (.slice (some ⟨w.heap.size, 0, none⟩) 1 1) [x] :=
  ⟨World.ownsRow_lit (base := B) (e := 3) (size := 1) w #[.int .i64 x] 1 hB (by decide) rfl, fun z hz => by simp only [List.mem_cons, List.not_mem_nil, or_false] at hz; subst hz; exact wf_of hx⟩

set_option maxRecDepth 100000 in
set_option maxHeartbeats 4000000 in
theorem Ring_walk {w : World} {mb n : Nat} {M : MeshM} {F : Nat → Prop} (h : MeshAt w mb n M F) (hs : Sound M) (hl : M.P.length ≤ 1048576) (hn : n ≤ 1000000000) {v : Int} (hv : i64ok v) (hsl : (spokesL M v).length ≤ 1000000) :
    Calls Tryz.prog 62 #[.pointer (some ⟨mb, 0, none⟩), .int .i64 v] w fun r w' => ∃ u, r = .returned u ∧ w'.ownsInts w.heap.size 3 .i64 u (ringR M v) ∧ (ringR M v = [] → u = .slice none 0 0) ∧ Below w.heap.size w w' := by
  have HAP : Hid (∀ W x, Below w.heap.size w W → i64ok x → Calls Tryz.prog 19 #[.pointer (some ⟨mb, 0, none⟩), .int .i64 v, .int .i64 x] W fun r w' => r = .returned (.tuple #[.int .i64 ((M.ap v x).getD 0), .bool (M.ap v x).isSome]) ∧ w' = W) := fun W x hb hx => apex_walk (h.below hb) hv hx
  have HAW : Hid (∀ x c, M.ap v x = some c → i64ok c) := fun x c e => (hs.i64 hl e).2.2
  have HSP := Lib.hid (spokes_walk h (fun a b c e => (hs.i64 hl e).2.2) hn hv)
  obtain ⟨S, hS⟩ : ∃ S, Hid (spokesL M v = S) := ⟨_, rfl⟩
  have HR : Hid (ringR M v = if S.length < 3 then [] else ringGo M v S.length S.length [S.getD 0 0]) := by unfold Hid ringR; rw [hS.out]
  rw [hS.out] at HSP hsl
  generalize ringR M v = RR at *
  clear h hs hl hn hS hv
  by_cases h3 : S.length < 3
  · have HSP2 : Hid (Calls Tryz.prog 84 #[.pointer (some ⟨mb, 0, none⟩), .int .i64 v] w fun r w' => ∃ ads caps, r = .returned (.slice ads S.length caps) ∧ Hid (Below w.heap.size w w')) := by
      refine HSP.out.mono ?_
      rintro r w' ⟨sv, rfl, ho, hb⟩
      obtain ⟨ads, caps, rfl, _⟩ := NCells.own ho
      exact ⟨ads, caps, rfl, hb⟩
    have h3z : (S.length : Int) < 3 := by omega
    have hR := HR.out
    rw [if_pos h3] at hR
    subst hR
    clear HSP HAP HAW HR
    go_enter Tryz.func62, Tryz.ntmps62
    go_wp2_with (go_at_call 84; with_reducible refine HSP2.out.mono ?_; rintro r w1 ⟨ads, caps, rfl, H1⟩)
    go_ret
    exact ⟨_, rfl, World.ownsInts_nil _ _ _ _, fun _ => rfl, H1.out⟩
  · have HSP2 : Hid (Calls Tryz.prog 84 #[.pointer (some ⟨mb, 0, none⟩), .int .i64 v] w fun r w' => ∃ gs caps, r = .returned (.slice (some ⟨gs, 0, none⟩) S.length caps) ∧ w'.cell? ⟨gs, 0, none⟩ = some (.int .i64 (S.getD 0 0)) ∧ Hid (i64ok (S.getD 0 0)) ∧ Hid (Below w.heap.size w w')) := by
      refine HSP.out.mono ?_
      rintro r w' ⟨sv, rfl, ho, hb⟩
      obtain ⟨ads, caps, rfl, _, hn, _⟩ := NCells.own ho
      obtain ⟨gs, rfl, _, hc⟩ := hn (by omega)
      exact ⟨gs, caps, rfl, hc 0 (by omega), of_wf (ho.2 _ (getD_memI (by omega))), hb⟩
    have h3z : ¬(S.length : Int) < 3 := by omega
    have hS0 : (0 : Int) < (S.length : Int) := by omega
    have hR := HR.out
    rw [if_neg h3] at hR
    have HSL := Lib.hid hsl
    have HL3 : Hid (3 ≤ S.length) := by unfold Hid; omega
    clear HSP HR hsl
    generalize S.getD 0 0 = s0 at *
    generalize S.length = L at *
    obtain ⟨i0, hi, hz0, hz1, hz2⟩ := info_parts infoInt
    go_enter Tryz.func62, Tryz.ntmps62
    go_wp2_with (go_at_call 84; with_reducible refine HSP2.out.mono ?_; rintro r w1 ⟨gs, caps, rfl, hc0, HI0, H1⟩)
    have HO1 : Hid ((w1.alloc (.cells #[.int .i64 s0] 3)).ownsInts w.heap.size 3 .i64 (.slice (some ⟨w1.heap.size, 0, none⟩) 1 1) [s0]) := ints_lit w1 s0 HI0.out w.heap.size H1.out.size
    have HB1 : Hid (Below w.heap.size w (w1.alloc (.cells #[.int .i64 s0] 3))) := H1.out.alloc H1.out.size _
    have HE1 : Hid (∀ x, x ∈ [s0] → i64ok x) := fun x hx => by simp only [List.mem_cons, List.not_mem_nil, or_false] at hx; subst hx; exact HI0.out
    have HRR := Lib.hid hR
    clear hc0 hR h3 HSP2
    generalize w1.alloc (.cells #[.int .i64 s0] 3) = W1 at *
    go_loopg [6] L (fun gk s6 wr => ∃ (o : List Int), gk + o.length = L + 1 ∧ 0 < o.length ∧ Hid (wr.ownsInts w.heap.size 3 .i64 s6 o) ∧ Hid (Below w.heap.size w wr) ∧ Hid (RR = ringGo M v L gk o) ∧ Hid (∀ x, x ∈ o → i64ok x))
    case atStart => exact ⟨[s0], by simp, by simp, HO1.out, HB1.out, HRR.out, HE1.out⟩
    case round =>
      obtain ⟨o, hgo, h0, HO, HB, HRG, HEL⟩ := hrel
      obtain ⟨ad, cap, rfl, hcap, hnc, hgb⟩ := NCells.own HO.out
      obtain ⟨g, rfl, hgl, hcc⟩ := hnc h0
      have HCAP := Lib.hid hcap
      cases gk with
      | zero =>
        have hle : ¬(o.length : Int) ≤ (L : Int) := by omega
        have HRZ : Hid (RR = []) := HRG.out
        clear hcc hgb hnc hcap HRG
        go_wp2
        go_ret
        exact ⟨_, rfl, by rw [HRZ.out]; exact World.ownsInts_nil _ _ _ _, fun _ => rfl, HB.out⟩
      | succ gk =>
        have hle : (o.length : Int) ≤ (L : Int) := by omega
        have hw1 : wrap64 ((o.length : Int) - 1) = ((o.length - 1 : Nat) : Int) := by have := HSL.out; unfold wrap64; omega
        have hcl := hcc (o.length - 1) (by omega)
        have hc0 := hcc 0 h0
        have hlz : ((o.length - 1 : Nat) : Int) < (o.length : Int) := by omega
        have hl0 : (0 : Int) < (o.length : Int) := by omega
        have HX := Lib.hid (HAP.out wr (o.getD (o.length - 1) 0) HB.out (HEL.out _ (getD_memI (by omega))))
        have HCON := Lib.hid (fun c => contains_walk (cap := cap) c hnc (by have := HSL.out; omega))
        have HLEN : Hid (gk + o.length = L) := by unfold Hid; omega
        have H0 := Lib.hid h0
        cases e : M.ap v (o.getD (o.length - 1) 0) with
        | none =>
          have HRZ : Hid (RR = []) := by unfold Hid; rw [HRG.out, ringGo_none e]
          rw [e] at HX
          simp only [Option.getD_none, Option.isSome_none] at HX
          clear hcc hgb hnc hcap e HCON HRG
          generalize o.getD (o.length - 1) 0 = la at *
          generalize o.getD 0 0 = fi at *
          generalize o.length - 1 = l1 at *
          go_wp2_with (go_at_call 19; with_reducible refine HX.out.mono ?_; rintro r w2 ⟨rfl, rfl⟩)
          go_ret
          exact ⟨_, rfl, by rw [HRZ.out]; exact World.ownsInts_nil _ _ _ _, fun _ => rfl, HB.out⟩
        | some c =>
          have hRS := ringGo_some (L := L) (f := gk) e
          have HCI := Lib.hid (HAW.out _ c e)
          rw [← HRG.out] at hRS
          rw [e] at HX
          simp only [Option.getD_some, Option.isSome_some] at HX
          have HCC := Lib.hid (HCON.out c)
          clear HCON HRG e
          by_cases hcf : c = o.getD 0 0
          · rw [if_pos hcf] at hRS
            by_cases hsh : o.length < L
            · rw [if_pos hsh] at hRS
              have hshz : (o.length : Int) < (L : Int) := by omega
              have HRZ : Hid (RR = []) := hRS
              clear hcc hgb hnc hcap hRS
              generalize o.getD (o.length - 1) 0 = la at *
              generalize o.getD 0 0 = fi at *
              generalize o.length - 1 = l1 at *
              go_wp2_with (go_at_call 19; with_reducible refine HX.out.mono ?_; rintro r w2 ⟨rfl, rfl⟩)
              go_ret
              exact ⟨_, rfl, by rw [HRZ.out]; exact World.ownsInts_nil _ _ _ _, fun _ => rfl, HB.out⟩
            · rw [if_neg hsh] at hRS
              have hshz : ¬(o.length : Int) < (L : Int) := by omega
              clear hcc hgb hnc hcap
              have HRS := Lib.hid hRS
              clear hRS
              generalize o.getD (o.length - 1) 0 = la at *
              generalize o.getD 0 0 = fi at *
              generalize o.length - 1 = l1 at *
              go_wp2_with (go_at_call 19; with_reducible refine HX.out.mono ?_; rintro r w2 ⟨rfl, rfl⟩)
              go_ret
              exact ⟨_, rfl, by rw [HRS.out]; exact HO.out, fun h => by have := H0.out; rw [← HRS.out, h] at this; simp at this, HB.out⟩
          · rw [if_neg hcf] at hRS
            cases hcn : o.contains c
            · rw [hcn] at hRS HCC
              have HRS : Hid (RR = ringGo M v L gk (o ++ [c])) := by rw [hRS]; exact if_neg (by simp)
              clear hcc hgb hnc hcap hRS hcn
              have HAL : Hid (o.length ≤ 1000000) := by have := HSL.out; have := HLEN.out; unfold Hid; omega
              generalize o.getD (o.length - 1) 0 = la at *
              generalize o.getD 0 0 = fi at *
              generalize o.length - 1 = l1 at *
              go_wp2_with (first
                | (go_at_call 19; with_reducible refine HX.out.mono ?_; rintro r w2 ⟨rfl, rfl⟩)
                | (go_at_call 135; with_reducible refine HCC.out.mono ?_; rintro r w3 ⟨rfl, rfl⟩)
                | (at_builtin; refine wpList_append_own _ rfl _ _ 72 rfl w.heap.size 3 i0 (.int .i64 0) 1 8 Tryz.underlying72 hi hz0 hz1 hz2 rfl (by decide) (.slice (some ⟨g, 0, none⟩) o.length cap) o.length (o.map (Value.int .i64)) rfl (HO.out.1.alloc _) ⟨_, 0, none⟩ 1 1 [.int .i64 c] rfl ?qc1 ?qc2 ?qc3 ?qc4 ?qc5 ?qc6 ?_))
              case qc1 => rfl
              case qc2 => exact cells_new _ [.int .i64 c] 3
              case qc3 => intro u hu; simp at hu; subst hu; rfl
              case qc4 => have := HAL.out; unfold maxLen; omega
              case qc5 => have := HAL.out; omega
              case qc6 => have := HB.out.size; simp; omega
              intro v' w2 hown hgrow _
              have HO2 : Hid (w2.ownsInts w.heap.size 3 .i64 v' (o ++ [c])) := by
                refine ⟨?_, fun z hz => ?_⟩
                · rw [List.length_append, List.map_append]; exact hown
                · rcases List.mem_append.1 hz with hz | hz
                  · exact HO.out.2 z hz
                  · simp only [List.mem_cons, List.not_mem_nil, or_false] at hz
                    subst hz; exact wf_of HCI.out
              have HB2 : Hid (Below w.heap.size w w2) := (HB.out.alloc HB.out.size _).grown hgrow (by have := HB.out.size; simp; omega) (fun j hj => (HO.out.1.lt j hj).1)
              have HE2 : Hid (∀ x, x ∈ o ++ [c] → i64ok x) := fun x hx => by
                rcases List.mem_append.1 hx with hx | hx
                · exact HEL.out x hx
                · simp only [List.mem_cons, List.not_mem_nil, or_false] at hx
                  subst hx; exact HCI.out
              clear hown hgrow
              go_wp2
              go_roundg gk
              case rel => exact ⟨o ++ [c], by have := HLEN.out; simp; omega, by simp, HO2.out, HB2.out, HRS.out, HE2.out⟩
              case measure => exact Nat.lt_succ_self _
            · rw [hcn] at hRS HCC
              have HRZ : Hid (RR = []) := by unfold Hid; rw [hRS]; exact if_pos rfl
              clear hcc hgb hnc hcap hRS hcn
              generalize o.getD (o.length - 1) 0 = la at *
              generalize o.getD 0 0 = fi at *
              generalize o.length - 1 = l1 at *
              go_wp2_with (first
                | (go_at_call 19; with_reducible refine HX.out.mono ?_; rintro r w2 ⟨rfl, rfl⟩)
                | (go_at_call 135; with_reducible refine HCC.out.mono ?_; rintro r w3 ⟨rfl, rfl⟩))
              go_ret
              exact ⟨_, rfl, by rw [HRZ.out]; exact World.ownsInts_nil _ _ _ _, fun _ => rfl, HB.out⟩

end Go.Proofs.YtdoaniccefdkaaaGreatDoor
