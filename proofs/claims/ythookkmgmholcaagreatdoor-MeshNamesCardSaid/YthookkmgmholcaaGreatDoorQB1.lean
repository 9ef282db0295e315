/- (*mesh.Mesh).Fix: the plain law and the walk. -/
import Derived.Test.YthookkmgmholcaaGreatDoorZD
namespace Go.Proofs.YthookkmgmholcaaGreatDoor
open Go.RowKit Go.Maps Go.WideMaps

def fxM (M : MeshM) (fx' : Int → Int → Option Int) : MeshM := { M with fx := fx' }

theorem fx_parts {w w' : World} {mb ba bs bf n : Nat} {pv : Value} {sv : Int → Option Value} {M : MeshM} {F : Nat → Prop} (h : MeshParts w mb ba bs bf n pv sv M F) {fx' : Int → Int → Option Int} (hf : FMap Tryz.prog w' 94 bf (n + 1) (edgeV fx')) (hg : w.grownBy w' (some bf)) :
    MeshParts w' mb ba bs bf (n + 1) pv sv (fxM M fx') F := by
  have hs : ∀ i, i < w.heap.size → i ≠ bf → w'.heap[i]? = w.heap[i]? := fun i hi hne => hg.block i hi (by simpa using hne)
  have hmb := h.mb_ne h.fxm
  have hc : ∀ i, w'.cell? ⟨mb, i, none⟩ = w.cell? ⟨mb, i, none⟩ := fun i => World.cell?_of_block (hs mb (h.flt _ h.fmb) hmb)
  obtain ⟨es, cl, h2⟩ := h.fxm.isMap
  have hpv : ∀ g, pv.ownBlock = some g → g ≠ bf := by
    intro g hpg e
    subst e
    rcases h.pts.2 with ⟨h1, _⟩ | ⟨g', cap, cur, h1, _, hh, _⟩
    · rw [h1] at hpg; simp [Value.ownBlock] at hpg
    · rw [h1] at hpg; simp [Value.ownBlock] at hpg; subst hpg; rw [hh] at h2; cases h2
  have hrow : ∀ a v g, sv a = some v → v.ownBlock = some g → g ≠ bf := by
    intro a v g hv hvg e
    subst e
    rcases (h.rows.own a v hv).1.2 with ⟨rfl, _⟩ | ⟨g', cap, cur, rfl, _, hh, _⟩
    · simp [Value.ownBlock] at hvg
    · simp [Value.ownBlock] at hvg; subst hvg; rw [hh] at h2; cases h2
  have hcb := h.cb
  exact ⟨(hc 0).trans h.c0, (hc 1).trans h.c1, (hc 2).trans h.c2, (hc 3).trans h.c3, (hc 4).trans h.c4, fun i => (World.frozen?_of_block (hs mb (h.flt _ h.fmb) hmb)).trans (h.fz i),
    ownsRow_same h.pts fun g hg => hs g (h.flt g (h.fpv g hg)) (hpv g hg), (h.apm.mono (Nat.le_succ n)).same (hs ba (h.flt _ h.fba) h.naf), (h.spm.mono (Nat.le_succ n)).same (hs bs (h.flt _ h.fbs) h.nsf), hf,
    ⟨h.rows.none, fun a v hv => ⟨ownsRow_same (h.rows.own a v hv).1 fun g hvg => hs g (h.flt g (h.rows.inF a v g hv hvg).1) (hrow a v g hv hvg), (h.rows.own a v hv).2⟩, h.rows.dis, h.rows.inF⟩,
    h.nab, h.naf, h.nsf, h.npm, h.fmb, h.fba, h.fbs, h.fbf, h.fpv, fun g hF => Nat.lt_of_lt_of_le (h.flt g hF) hg.size, fun a => Nat.le_trans (h.spl a) (Nat.le_succ n), ⟨by show -((n + 1 : Nat) : Int) ≤ M.cnt; omega, by show M.cnt ≤ ((n + 1 : Nat) : Int); omega⟩⟩

set_option maxRecDepth 100000 in
set_option maxHeartbeats 1000000 in
theorem fix_none {w : World} {mb n : Nat} {M : MeshM} {F : Nat → Prop} (h : MeshAt w mb n M F) (a b v : Int) (hx : hasM M a = false ∨ (hasM M a = true ∧ hasM M b = false)) :
    Calls Tryz.prog 15 #[.pointer (some ⟨mb, 0, none⟩), .int .i64 a, .int .i64 b, .int .i64 v] w fun r w' => r = .returned (.int .i64 11) ∧ w' = w := by
  have HA := Lib.hid (has_walk h a)
  have HB := Lib.hid (has_walk h b)
  clear h
  rcases hx with hx | ⟨hx, hy⟩
  · rw [hx] at HA
    clear hx HB
    go_enter Tryz.func15, Tryz.ntmps15
    go_wp2_with (go_at_call 61; refine HA.out.mono ?_; rintro r w1 ⟨rfl, rfl⟩)
    go_ret
    exact ⟨rfl, rfl⟩
  · rw [hx] at HA
    rw [hy] at HB
    clear hx hy
    go_enter Tryz.func15, Tryz.ntmps15
    go_wp2_with (first
      | (go_at_call 61; with_reducible refine HA.out.mono ?_; rintro r w1 ⟨rfl, rfl⟩)
      | (go_at_call 61; with_reducible refine HB.out.mono ?_; rintro r w1 ⟨rfl, rfl⟩))
    go_ret
    exact ⟨rfl, rfl⟩

set_option maxRecDepth 100000 in
set_option maxHeartbeats 1000000 in
theorem fix_same {w : World} {mb n : Nat} {M : MeshM} {F : Nat → Prop} (h : MeshAt w mb n M F) (a v : Int) (hx : hasM M a = true) :
    Calls Tryz.prog 15 #[.pointer (some ⟨mb, 0, none⟩), .int .i64 a, .int .i64 a, .int .i64 v] w fun r w' => r = .returned (.int .i64 1) ∧ w' = w := by
  have HA := Lib.hid (has_walk h a)
  rw [hx] at HA
  clear h hx
  go_enter Tryz.func15, Tryz.ntmps15
  go_wp2_with (go_at_call 61; refine HA.out.mono ?_; rintro r w1 ⟨rfl, rfl⟩)
  go_ret
  exact ⟨rfl, rfl⟩

set_option maxRecDepth 100000 in
set_option maxHeartbeats 2000000 in
theorem fix_ok {w0 w : World} {mb n : Nat} {M : MeshM} {F : Nat → Prop} (h : MB w0 w mb n M F) (hn : n ≤ 1000000000) {a b v : Int} (ha : i64ok a) (hb : i64ok b) (hx : hasM M a = true) (hy : hasM M b = true) (hab : a ≠ b) :
    Calls Tryz.prog 15 #[.pointer (some ⟨mb, 0, none⟩), .int .i64 a, .int .i64 b, .int .i64 v] w fun r w' => r = .returned (.int .i64 0) ∧ MB w0 w' mb (n + 1) (fxM M (upE M.fx (minI a b) (maxI a b) v)) F := by
  have HA := Lib.hid (has_walk h.at_ a)
  have HB := Lib.hid (has_walk h.at_ b)
  rw [hx] at HA
  rw [hy] at HB
  have HN := Lib.hid h.new
  have HKP := Lib.hid h.keep
  obtain ⟨ba, bs, bf, pv, sv, hp⟩ := h.at_
  have n0 : w.drew.cell? ⟨mb, 4, none⟩ = some (.map (some bf)) := hp.c4
  have hne : some mb ≠ some bf := by have := hp.mb_ne hp.fxm; simpa using this
  have HNE := Lib.hid hne
  have HO := Lib.hid (own_walk a b)
  have HP := Lib.hid hp
  have HI := Lib.hid (i64ok_min ha hb)
  have HL := Lib.hid hn
  clear h hp hx hy ha hb hne hn
  generalize minI a b = u at *
  generalize maxI a b = t at *
  unfold kE at HO
  have HST : Hid (∀ w1, FMap Tryz.prog w1 94 bf n (edgeV M.fx) → ∃ w2, (Instr.mapUpdate 90 (.map (some bf)) (.agg #[.int .i64 u, .int .i64 t]) (.int .i64 v)).run Tryz.prog w1 = .ok () w2 ∧ FMap Tryz.prog w2 94 bf (n + 1) (edgeV (upE M.fx u t v)) ∧ w1.grownBy w2 (some bf)) := by
    intro w1 h1
    rw [← edgeV_up]
    exact h1.store edgeLaw Tryz.underlying90 (by have := HL.out; unfold maxLen; omega) (keyE HI.out.1 HI.out.2) (.int .i64 v)
  have HOWN : Hid (Calls Tryz.prog 62 #[.int .i64 a, .int .i64 b] w.drew fun r w1 => r = .returned (.agg #[.int .i64 u, .int .i64 t]) ∧ ∃ w2, Below w.heap.size w w1 ∧ w1.cell? ⟨mb, 4, none⟩ = some (.map (some bf)) ∧ (Instr.mapUpdate 90 (.map (some bf)) (.agg #[.int .i64 u, .int .i64 t]) (.int .i64 v)).run Tryz.prog w1 = .ok () w2 ∧ FMap Tryz.prog w2 94 bf (n + 1) (edgeV (upE M.fx u t v)) ∧ w1.grownBy w2 (some bf) ∧ w2.cell? ⟨mb, 4, none⟩ = some (.map (some bf))) := by
    refine (HO.out w.drew).mono ?_
    rintro r w1 ⟨rfl, hb1⟩
    have b1 : Below w.heap.size w w1 := (Below.refl w.heap.size w).drew.trans hb1
    have hp1 := HP.out.below b1
    obtain ⟨w2, hrun2, hf2, hg2⟩ := HST.out w1 hp1.fxm
    exact ⟨rfl, w2, b1, hp1.c4, hrun2, hf2, hg2, hg2.cell hp1.c4 HNE.out⟩
  go_enter Tryz.func15, Tryz.ntmps15
  go_wp2_with (first
    | (go_at_call 61; with_reducible refine HA.out.mono ?_; rintro r w1 ⟨rfl, rfl⟩)
    | (go_at_call 61; with_reducible refine HB.out.mono ?_; rintro r w1 ⟨rfl, rfl⟩))
  go_region_held3 (fun w' => w'.cell? ⟨mb, 4, none⟩ = some (.map (some bf))) (first | assumption | exact n2 | exact n1)
    (first | (go_at_call 62; refine HOWN.out.mono ?_; rintro r w1 ⟨rfl, w2, b1, n1, hrun2, hf2, hg2, n2⟩))
  all_goals
    have hp1 := HP.out.below b1
    have hp2 := fx_parts hp1 hf2 hg2
    go_wp2
    go_ret
    refine ⟨rfl, ⟨⟨ba, bs, bf, pv, sv, hp2⟩, HN.out, ?_⟩⟩
    refine ⟨hg2.os.trans (b1.os.trans HKP.out.os), hg2.tape.trans (b1.tape.trans HKP.out.tape), hg2.output.trans (b1.output.trans HKP.out.output), Nat.le_trans HKP.out.size (Nat.le_trans b1.size hg2.size), fun i hi => ?_⟩
    rw [hg2.block i (by have := HKP.out.size; have := b1.size; omega) (by have := HN.out bf hp1.fbf; intro e; cases e; omega), b1.block i (by have := HKP.out.size; omega)]
    exact HKP.out.block i hi

end Go.Proofs.YthookkmgmholcaaGreatDoor
