/- Of, Points; Fix, Loose; nobody's mesh; Add, Copy refused or not. No conditions. -/
import Derived.Test.YthookkmgmholcaaGreatDoorZD
import Derived.Deep.AppendLies

/- (*mesh.Mesh).Points; mesh.Of at triangles that can all be made. -/
namespace Go.Proofs.YthookkmgmholcaaGreatDoor
open Go.RowKit Go.Maps Go.WideMaps

theorem owns_pcells {w : World} {base : Nat} {v : Value} {l : List Pt} (h : w.ownsRow base 25 2 v l.length (cellsP l)) : ∃ ad cap, v = .slice ad l.length cap ∧ PCells w ad l := by
  rcases h.2 with ⟨h1, h2⟩ | ⟨g, cap, cur, h1, h2, h3, h4, h5, h6, h7⟩
  · exact ⟨none, 0, by rw [h2]; exact h1, fun hl => absurd h2 (by omega)⟩
  · refine ⟨some ⟨g, 0, none⟩, cap, h1, fun _ => ⟨g, 0, rfl, (Array.getElem?_eq_some_iff.1 h3).1, fun i hi => ?_⟩⟩
    have hp := h
    rw [h1] at hp
    have := cellsP_at l i hi
    refine ⟨?_, ?_⟩
    · rw [hp.cellAt _ (by omega)]; simpa using this.1
    · rw [hp.cellAt _ (by omega)]; simpa using this.2

set_option maxRecDepth 100000 in
set_option maxHeartbeats 1000000 in
theorem points_mb {w0 w : World} {mb n : Nat} {M : MeshM} {F : Nat → Prop} (h : MB w0 w mb n M F) (hl : M.P.length ≤ 1048576) :
    Calls Tryz.prog 41 #[.pointer (some ⟨mb, 0, none⟩)] w fun r w' => ∃ ad cap, r = .returned (.slice ad M.P.length cap) ∧ PCells w' ad M.P ∧ Below w.heap.size w w' := by
  obtain ⟨ba, bs, bf, pv, sv, h⟩ := h.at_
  obtain ⟨ad, cap, rfl, hp⟩ := h.ptcells
  have c0 := h.c0
  have HC := Lib.hid (clone_walk M.P ad cap hl w hp)
  clear h hp
  go_enter Tryz.func41, Tryz.ntmps41
  go_wp2_with (go_at_call 79; with_reducible refine HC.out.mono ?_; rintro r w2 ⟨v', rfl, hown2, hb2⟩)
  go_ret
  obtain ⟨ad2, cap2, rfl, hp2⟩ := owns_pcells hown2
  exact ⟨ad2, cap2, rfl, hp2, hb2⟩

set_option maxRecDepth 100000 in
set_option maxHeartbeats 2000000 in
theorem of_ok (l : List Pt) (ad : Option Addr) (cap : Nat) (T : List Tri3) (at_ : Option Addr) (capt : Nat) (h64 : ∀ p, p ∈ l → pt64 p) (hk : allCode l = 0) (hl : l.length ≤ 1048576) (hT : T.length ≤ 1000000) (hok : allOk (emptyM l) T) (w : World) (hc : PCells w ad l) (hct : KCells encT w at_ T) :
    Calls Tryz.prog 14 #[.slice ad l.length cap, .slice at_ T.length capt] w fun r w' => ∃ mb F, r = .returned (.tuple #[.pointer (some ⟨mb, 0, none⟩), .int .i64 0]) ∧ MB w w' mb (3 * T.length) (foldM (emptyM l) T) F := by
  have HN := Lib.hid (new_mb l ad cap h64 hk hl w w (Below.refl _ _) hc)
  have HTC := Lib.hid hct
  have H64 := Lib.hid h64
  have HL := Lib.hid hl
  have HTL := Lib.hid hT
  have HOK := Lib.hid (allOk_at T _ hok)
  clear h64 hk hl hc hct hT hok
  go_enter Tryz.func14, Tryz.ntmps14
  go_wp2_with (go_at_call 48; refine HN.out.mono ?_; rintro r w1 ⟨mb, F, rfl, hm1, _, _⟩)
  have HM1 := Lib.hid hm1
  clear hm1
  go_loopw [21] (fun s21 wr => ∃ (k : Nat) (F : Nat → Prop), k ≤ T.length ∧ s21 = .int .i64 k ∧ Hid (MB w wr mb (3 * k) (foldM (emptyM l) (T.take k)) F)) (fun i _ => T.length - (intOf i).toNat)
  case atStart => exact ⟨0, F, Nat.zero_le _, rfl, HM1.out⟩
  case round =>
    obtain ⟨k, G, hk, rfl, HM⟩ := hrel
    by_cases hlt : k < T.length
    · obtain ⟨g, rfl, _, q0, q1, q2⟩ := (HTC.out.below HM.out.keep).tri hlt
      have HTS := Lib.hid (take_snocT T k hlt)
      have hco := HOK.out k hlt
      have e : T[k] = T.getD k (0, 0, 0) := by rw [List.getD_eq_getElem?_getD, List.getElem?_eq_getElem hlt]; rfl
      rw [e] at hco
      clear e
      generalize T.getD k (0, 0, 0) = t at *
      obtain ⟨ta, tb, tc⟩ := t
      dsimp only at q0 q1 q2 hco
      have HMK : Hid (∀ v, Calls Tryz.prog 43 #[.pointer (some ⟨mb, 0, none⟩), .int .i64 ta, .int .i64 tb, .int .i64 tc] (wr.alloc v) fun r w2 => r = .returned (.int .i64 0) ∧ Hid (∃ F2, MB w w2 mb (3 * (k + 1)) (foldM (emptyM l) (T.take (k + 1))) F2)) := by
        intro v
        refine (make_mb (HM.out.below ((Below.refl _ wr).alloc (Nat.le_refl _) v)) (by rw [foldM_P]; exact H64.out) (by rw [foldM_P]; exact HL.out) (by have := HTL.out; omega) ta tb tc).mono ?_
        rintro r w2 ⟨rfl, hm2, _⟩
        refine ⟨by rw [hco], Fx G (wr.alloc v) w2, ?_⟩
        rw [HTS.out, foldM_snoc]
        exact hm2
      clear hco
      go_wp2_with (go_at_call 43; refine (HMK.out _).mono ?_; rintro r w2 ⟨rfl, HM2⟩)
      clear q0 q1 q2
      go_roundw
      case rel =>
        obtain ⟨F2, hm2⟩ := HM2.out
        exact ⟨k + 1, F2, by omega, (by have := HTL.out; first | rfl | rw [wrapS (by omega)]), hm2⟩
      case measure => have := HTL.out; first | (simp [intOf]; omega) | (rw [wrapS (by omega)]; simp [intOf]; omega)
    · have e : k = T.length := by omega
      subst e
      rw [List.take_length] at HM
      clear hlt hk
      go_wp2
      go_ret2
      exact ⟨mb, G, rfl, HM.out⟩

end Go.Proofs.YthookkmgmholcaaGreatDoor

/- (*mesh.Mesh).Fix: the plain law and the walk. -/
namespace Go.Proofs.YthookkmgmholcaaGreatDoor
open Go.RowKit Go.Maps Go.WideMaps

def fxM (M : MeshM) (fx' : Int → Int → Option Int) : MeshM := { M with fx := fx' }

theorem fx_parts {w w' : World} {mb ba bs bf n : Nat} {pv : Value} {sv : Int → Option Value} {M : MeshM} {F : Nat → Prop} (h : MeshParts w mb ba bs bf n pv sv M F) {fx' : Int → Int → Option Int} (hf : FMap Tryz.prog w' 94 bf (n + 1) (edgeV fx')) (hg : w.grownBy w' (some bf)) :
    MeshParts w' mb ba bs bf (n + 1) pv sv (fxM M fx') F := by
  have hs : ∀ i, i < w.heap.size → i ≠ bf → w'.heap[i]? = w.heap[i]? := fun i hi hne => hg.block i hi (by simpa using hne)
  have hmb := h.mb_ne h.fxm
  have hc : ∀ i, w'.cell? ⟨mb, i, none⟩ = w.cell? ⟨mb, i, none⟩ := fun i => World.cell?_of_block (hs mb (h.flt _ h.fmb) hmb)
  obtain ⟨es, cl, h2⟩ := h.fxm.isMap
  have hpv : ∀ g, pv.ownBlock = some g → g ≠ bf := by
    intro g hpg e
    subst e
    rcases h.pts.2 with ⟨h1, _⟩ | ⟨g', cap, cur, h1, _, hh, _⟩
    · rw [h1] at hpg; simp [Value.ownBlock] at hpg
    · rw [h1] at hpg; simp [Value.ownBlock] at hpg; subst hpg; rw [hh] at h2; cases h2
  have hrow : ∀ a v g, sv a = some v → v.ownBlock = some g → g ≠ bf := by
    intro a v g hv hvg e
    subst e
    rcases (h.rows.own a v hv).1.2 with ⟨rfl, _⟩ | ⟨g', cap, cur, rfl, _, hh, _⟩
    · simp [Value.ownBlock] at hvg
    · simp [Value.ownBlock] at hvg; subst hvg; rw [hh] at h2; cases h2
  have hcb := h.cb
  exact ⟨(hc 0).trans h.c0, (hc 1).trans h.c1, (hc 2).trans h.c2, (hc 3).trans h.c3, (hc 4).trans h.c4, fun i => (World.frozen?_of_block (hs mb (h.flt _ h.fmb) hmb)).trans (h.fz i),
    ownsRow_same h.pts fun g hg => hs g (h.flt g (h.fpv g hg)) (hpv g hg), (h.apm.mono (Nat.le_succ n)).same (hs ba (h.flt _ h.fba) h.naf), (h.spm.mono (Nat.le_succ n)).same (hs bs (h.flt _ h.fbs) h.nsf), hf,
    ⟨h.rows.none, fun a v hv => ⟨ownsRow_same (h.rows.own a v hv).1 fun g hvg => hs g (h.flt g (h.rows.inF a v g hv hvg).1) (hrow a v g hv hvg), (h.rows.own a v hv).2⟩, h.rows.dis, h.rows.inF⟩,
    h.nab, h.naf, h.nsf, h.npm, h.fmb, h.fba, h.fbs, h.fbf, h.fpv, fun g hF => Nat.lt_of_lt_of_le (h.flt g hF) hg.size, fun a => Nat.le_trans (h.spl a) (Nat.le_succ n), ⟨by show -((n + 1 : Nat) : Int) ≤ M.cnt; omega, by show M.cnt ≤ ((n + 1 : Nat) : Int); omega⟩⟩

set_option maxRecDepth 100000 in
set_option maxHeartbeats 1000000 in
theorem fix_none {w : World} {mb n : Nat} {M : MeshM} {F : Nat → Prop} (h : MeshAt w mb n M F) (a b v : Int) (hx : hasM M a = false ∨ (hasM M a = true ∧ hasM M b = false)) :
    Calls Tryz.prog 15 #[.pointer (some ⟨mb, 0, none⟩), .int .i64 a, .int .i64 b, .int .i64 v] w fun r w' => r = .returned (.int .i64 11) ∧ w' = w := by
  have HA := Lib.hid (has_walk h a)
  have HB := Lib.hid (has_walk h b)
  clear h
  rcases hx with hx | ⟨hx, hy⟩
  · rw [hx] at HA
    clear hx HB
    go_enter Tryz.func15, Tryz.ntmps15
    go_wp2_with (go_at_call 61; refine HA.out.mono ?_; rintro r w1 ⟨rfl, rfl⟩)
    go_ret
    exact ⟨rfl, rfl⟩
  · rw [hx] at HA
    rw [hy] at HB
    clear hx hy
    go_enter Tryz.func15, Tryz.ntmps15
    go_wp2_with (first
      | (go_at_call 61; with_reducible refine HA.out.mono ?_; rintro r w1 ⟨rfl, rfl⟩)
      | (go_at_call 61; with_reducible refine HB.out.mono ?_; rintro r w1 ⟨rfl, rfl⟩))
    go_ret
    exact ⟨rfl, rfl⟩

set_option maxRecDepth 100000 in
set_option maxHeartbeats 1000000 in
theorem fix_same {w : World} {mb n : Nat} {M : MeshM} {F : Nat → Prop} (h : MeshAt w mb n M F) (a v : Int) (hx : hasM M a = true) :
    Calls Tryz.prog 15 #[.pointer (some ⟨mb, 0, none⟩), .int .i64 a, .int .i64 a, .int .i64 v] w fun r w' => r = .returned (.int .i64 1) ∧ w' = w := by
  have HA := Lib.hid (has_walk h a)
  rw [hx] at HA
  clear h hx
  go_enter Tryz.func15, Tryz.ntmps15
  go_wp2_with (go_at_call 61; refine HA.out.mono ?_; rintro r w1 ⟨rfl, rfl⟩)
  go_ret
  exact ⟨rfl, rfl⟩

set_option maxRecDepth 100000 in
set_option maxHeartbeats 2000000 in
theorem fix_ok {w0 w : World} {mb n : Nat} {M : MeshM} {F : Nat → Prop} (h : MB w0 w mb n M F) (hn : n ≤ 1000000000) {a b v : Int} (ha : i64ok a) (hb : i64ok b) (hx : hasM M a = true) (hy : hasM M b = true) (hab : a ≠ b) :
    Calls Tryz.prog 15 #[.pointer (some ⟨mb, 0, none⟩), .int .i64 a, .int .i64 b, .int .i64 v] w fun r w' => r = .returned (.int .i64 0) ∧ MB w0 w' mb (n + 1) (fxM M (upE M.fx (minI a b) (maxI a b) v)) F := by
  have HA := Lib.hid (has_walk h.at_ a)
  have HB := Lib.hid (has_walk h.at_ b)
  rw [hx] at HA
  rw [hy] at HB
  have HN := Lib.hid h.new
  have HKP := Lib.hid h.keep
  obtain ⟨ba, bs, bf, pv, sv, hp⟩ := h.at_
  have n0 : w.drew.cell? ⟨mb, 4, none⟩ = some (.map (some bf)) := hp.c4
  have hne : some mb ≠ some bf := by have := hp.mb_ne hp.fxm; simpa using this
  have HNE := Lib.hid hne
  have HO := Lib.hid (own_walk a b)
  have HP := Lib.hid hp
  have HI := Lib.hid (i64ok_min ha hb)
  have HL := Lib.hid hn
  clear h hp hx hy ha hb hne hn
  generalize minI a b = u at *
  generalize maxI a b = t at *
  unfold kE at HO
  have HST : Hid (∀ w1, FMap Tryz.prog w1 94 bf n (edgeV M.fx) → ∃ w2, (Instr.mapUpdate 90 (.map (some bf)) (.agg #[.int .i64 u, .int .i64 t]) (.int .i64 v)).run Tryz.prog w1 = .ok () w2 ∧ FMap Tryz.prog w2 94 bf (n + 1) (edgeV (upE M.fx u t v)) ∧ w1.grownBy w2 (some bf)) := by
    intro w1 h1
    rw [← edgeV_up]
    exact h1.store edgeLaw Tryz.underlying90 (by have := HL.out; unfold maxLen; omega) (keyE HI.out.1 HI.out.2) (.int .i64 v)
  have HOWN : Hid (Calls Tryz.prog 62 #[.int .i64 a, .int .i64 b] w.drew fun r w1 => r = .returned (.agg #[.int .i64 u, .int .i64 t]) ∧ ∃ w2, Below w.heap.size w w1 ∧ w1.cell? ⟨mb, 4, none⟩ = some (.map (some bf)) ∧ (Instr.mapUpdate 90 (.map (some bf)) (.agg #[.int .i64 u, .int .i64 t]) (.int .i64 v)).run Tryz.prog w1 = .ok () w2 ∧ FMap Tryz.prog w2 94 bf (n + 1) (edgeV (upE M.fx u t v)) ∧ w1.grownBy w2 (some bf) ∧ w2.cell? ⟨mb, 4, none⟩ = some (.map (some bf))) := by
    refine (HO.out w.drew).mono ?_
    rintro r w1 ⟨rfl, hb1⟩
    have b1 : Below w.heap.size w w1 := (Below.refl w.heap.size w).drew.trans hb1
    have hp1 := HP.out.below b1
    obtain ⟨w2, hrun2, hf2, hg2⟩ := HST.out w1 hp1.fxm
    exact ⟨rfl, w2, b1, hp1.c4, hrun2, hf2, hg2, hg2.cell hp1.c4 HNE.out⟩
  go_enter Tryz.func15, Tryz.ntmps15
  go_wp2_with (first
    | (go_at_call 61; with_reducible refine HA.out.mono ?_; rintro r w1 ⟨rfl, rfl⟩)
    | (go_at_call 61; with_reducible refine HB.out.mono ?_; rintro r w1 ⟨rfl, rfl⟩))
  go_region_held3 (fun w' => w'.cell? ⟨mb, 4, none⟩ = some (.map (some bf))) (first | assumption | exact n2 | exact n1)
    (first | (go_at_call 62; refine HOWN.out.mono ?_; rintro r w1 ⟨rfl, w2, b1, n1, hrun2, hf2, hg2, n2⟩))
  all_goals
    have hp1 := HP.out.below b1
    have hp2 := fx_parts hp1 hf2 hg2
    go_wp2
    go_ret
    refine ⟨rfl, ⟨⟨ba, bs, bf, pv, sv, hp2⟩, HN.out, ?_⟩⟩
    refine ⟨hg2.os.trans (b1.os.trans HKP.out.os), hg2.tape.trans (b1.tape.trans HKP.out.tape), hg2.output.trans (b1.output.trans HKP.out.output), Nat.le_trans HKP.out.size (Nat.le_trans b1.size hg2.size), fun i hi => ?_⟩
    rw [hg2.block i (by have := HKP.out.size; have := b1.size; omega) (by have := HN.out bf hp1.fbf; intro e; cases e; omega), b1.block i (by have := HKP.out.size; omega)]
    exact HKP.out.block i hi

end Go.Proofs.YthookkmgmholcaaGreatDoor

/- The mesh's methods at a nil receiver. -/
namespace Go.Proofs.YthookkmgmholcaaGreatDoor
open Go.RowKit Go.Maps Go.WideMaps

set_option maxRecDepth 100000 in
set_option maxHeartbeats 1000000 in
theorem nil_Add (x y : Nat) (w : World) : Calls Tryz.prog 50 #[.pointer none, .agg #[.float .f64 x, .float .f64 y]] w fun r w' => r = .returned (.tuple #[.int .i64 0, .int .i64 2]) ∧ Below w.heap.size w w' := by
  go_enter Tryz.func50, Tryz.ntmps50
  go_wp2
  go_ret2
  exact ⟨rfl, (Below.refl _ w).alloc (Nat.le_refl _) _⟩

set_option maxRecDepth 100000 in
set_option maxHeartbeats 1000000 in
theorem nil_Apex (a b : Int) (w : World) : Calls Tryz.prog 24 #[.pointer none, .int .i64 a, .int .i64 b] w fun r w' => r = .returned (.tuple #[.int .i64 0, .bool false]) ∧ w' = w := by
  go_enter Tryz.func24, Tryz.ntmps24
  go_wp2
  go_ret2
  exact ⟨rfl, rfl⟩

set_option maxRecDepth 100000 in
set_option maxHeartbeats 1000000 in
theorem nil_Fixed (a b : Int) (w : World) : Calls Tryz.prog 26 #[.pointer none, .int .i64 a, .int .i64 b] w fun r w' => r = .returned (.tuple #[.int .i64 0, .bool false]) ∧ w' = w := by
  go_enter Tryz.func26, Tryz.ntmps26
  go_wp2
  go_ret2
  exact ⟨rfl, rfl⟩

set_option maxRecDepth 100000 in
set_option maxHeartbeats 1000000 in
theorem nil_Make (a b c : Int) (w : World) : Calls Tryz.prog 43 #[.pointer none, .int .i64 a, .int .i64 b, .int .i64 c] w fun r w' => r = .returned (.int .i64 2) ∧ w' = w := by
  go_enter Tryz.func43, Tryz.ntmps43
  go_wp2
  go_ret
  exact ⟨rfl, rfl⟩

set_option maxRecDepth 100000 in
set_option maxHeartbeats 1000000 in
theorem nil_Kill (a b c : Int) (w : World) : Calls Tryz.prog 44 #[.pointer none, .int .i64 a, .int .i64 b, .int .i64 c] w fun r w' => r = .returned (.int .i64 2) ∧ w' = w := by
  go_enter Tryz.func44, Tryz.ntmps44
  go_wp2
  go_ret
  exact ⟨rfl, rfl⟩

set_option maxRecDepth 100000 in
set_option maxHeartbeats 1000000 in
theorem nil_Fix (a b c : Int) (w : World) : Calls Tryz.prog 15 #[.pointer none, .int .i64 a, .int .i64 b, .int .i64 c] w fun r w' => r = .returned (.int .i64 2) ∧ w' = w := by
  go_enter Tryz.func15, Tryz.ntmps15
  go_wp2
  go_ret
  exact ⟨rfl, rfl⟩

set_option maxRecDepth 100000 in
set_option maxHeartbeats 1000000 in
theorem nil_Copy  (w : World) : Calls Tryz.prog 55 #[.pointer none] w fun r w' => r = .returned (.pointer none) ∧ w' = w := by
  go_enter Tryz.func55, Tryz.ntmps55
  go_wp2
  go_ret
  exact ⟨rfl, rfl⟩

set_option maxRecDepth 100000 in
set_option maxHeartbeats 1000000 in
theorem nil_Len  (w : World) : Calls Tryz.prog 60 #[.pointer none] w fun r w' => r = .returned (.int .i64 0) ∧ w' = w := by
  go_enter Tryz.func60, Tryz.ntmps60
  go_wp2
  go_ret
  exact ⟨rfl, rfl⟩

set_option maxRecDepth 100000 in
set_option maxHeartbeats 1000000 in
theorem nil_Count  (w : World) : Calls Tryz.prog 39 #[.pointer none] w fun r w' => r = .returned (.int .i64 0) ∧ w' = w := by
  go_enter Tryz.func39, Tryz.ntmps39
  go_wp2
  go_ret
  exact ⟨rfl, rfl⟩

set_option maxRecDepth 100000 in
set_option maxHeartbeats 1000000 in
theorem nil_Points  (w : World) : Calls Tryz.prog 41 #[.pointer none] w fun r w' => r = .returned (.slice none 0 0) ∧ w' = w := by
  go_enter Tryz.func41, Tryz.ntmps41
  go_wp2
  go_ret
  exact ⟨rfl, rfl⟩

set_option maxRecDepth 100000 in
set_option maxHeartbeats 1000000 in
theorem nil_Tris  (w : World) : Calls Tryz.prog 23 #[.pointer none] w fun r w' => r = .returned (.slice none 0 0) ∧ w' = w := by
  go_enter Tryz.func23, Tryz.ntmps23
  go_wp2
  go_ret
  exact ⟨rfl, rfl⟩

set_option maxRecDepth 100000 in
set_option maxHeartbeats 1000000 in
theorem nil_Edges  (w : World) : Calls Tryz.prog 34 #[.pointer none] w fun r w' => r = .returned (.slice none 0 0) ∧ w' = w := by
  go_enter Tryz.func34, Tryz.ntmps34
  go_wp2
  go_ret
  exact ⟨rfl, rfl⟩

set_option maxRecDepth 100000 in
set_option maxHeartbeats 1000000 in
theorem nil_Border  (w : World) : Calls Tryz.prog 38 #[.pointer none] w fun r w' => r = .returned (.slice none 0 0) ∧ w' = w := by
  go_enter Tryz.func38, Tryz.ntmps38
  go_wp2
  go_ret
  exact ⟨rfl, rfl⟩

set_option maxRecDepth 100000 in
set_option maxHeartbeats 1000000 in
theorem nil_Spokes (a : Int) (w : World) : Calls Tryz.prog 58 #[.pointer none, .int .i64 a] w fun r w' => r = .returned (.slice none 0 0) ∧ w' = w := by
  go_enter Tryz.func58, Tryz.ntmps58
  go_wp2
  go_ret
  exact ⟨rfl, rfl⟩

set_option maxRecDepth 100000 in
set_option maxHeartbeats 1000000 in
theorem nil_Fixes  (w : World) : Calls Tryz.prog 33 #[.pointer none] w fun r w' => r = .returned (.slice none 0 0) ∧ w' = w := by
  go_enter Tryz.func33, Tryz.ntmps33
  go_wp2
  go_ret
  exact ⟨rfl, rfl⟩

set_option maxRecDepth 100000 in
set_option maxHeartbeats 1000000 in
theorem nil_Loose (a b : Int) (w : World) : Calls Tryz.prog 53 #[.pointer none, .int .i64 a, .int .i64 b] w fun r w' => r = .returned (.bool false) ∧ w' = w := by
  have HF := Lib.hid (nil_Fixed a b w)
  go_enter Tryz.func53, Tryz.ntmps53
  go_wp2_with (go_at_call 26; refine HF.out.mono ?_; rintro r w1 ⟨rfl, rfl⟩)
  go_ret
  exact ⟨rfl, rfl⟩

end Go.Proofs.YthookkmgmholcaaGreatDoor

/- A step law for the builtin delete in a drawn region; Point at a nil receiver. -/
namespace Go.Proofs.YthookkmgmholcaaGreatDoor
open Go.RowKit Go.Maps Go.WideMaps

theorem step_delete {P : Program} {w : World} {ops : Array Oper} {o : Oper} {a : Act} {K : Act → World → Prop} {Q : Exit → Act → World → Prop} {E : Prop} (hgd : o.guard = none) (m x : Operand) (t k : TypeId)
    (hop : o.op = Op.call { callee := Callee.builtin Builtin.delete, args := #[m, x], argTypes := #[t, k] }) (e : TypeId) (KK : Keyed P k) (ht : P.underlying t = some (.map k e))
    (b n : Nat) (f : Value → Option Value) (hm : a.eval m = .map (some b)) (h : FMap P w k b n f) (key : Value) (hx : a.eval x = key) (kl : Lit) (hkey : keyOf P k key = some kl)
    (hK : ∀ w', FMap P w' k b n (delV f key) → w.grownBy w' (some b) → K (a.put o.dst (.tuple #[])) w') :
    if Region.wanted o (yielded ops a.tmps) = true then Oper.wp P o a w K Q else E := by
  have hw : Region.wanted o (yielded ops a.tmps) = true := by simp [Region.wanted, hgd]
  rw [if_pos hw]
  obtain ⟨D, hown, hD⟩ := h
  obtain ⟨w', hrun, r1, r2⟩ := hown.drop KK ht hkey o.type
  unfold Oper.wp
  simp [execOp, hop, resolve, invoke, builtin, hm, hx, hrun, Result.andThen]
  exact hK w' ⟨_, r1, hD.del KK hkey⟩ r2.grown

set_option maxRecDepth 100000 in
set_option maxHeartbeats 1000000 in
theorem nil_has (i : Int) (w : World) : Calls Tryz.prog 61 #[.pointer none, .int .i64 i] w fun r w' => r = .returned (.bool false) ∧ w' = w := by
  have HL := Lib.hid (nil_Len w)
  by_cases h : 0 ≤ i
  all_goals
    go_enter Tryz.func61, Tryz.ntmps61
    go_wp2_with (go_at_call 60; refine HL.out.mono ?_; rintro r w1 ⟨rfl, rfl⟩)
    go_ret
    first | exact ⟨rfl, rfl⟩ | (refine ⟨?_, rfl⟩; simp; omega)

set_option maxRecDepth 100000 in
set_option maxHeartbeats 2000000 in
theorem loose_ok {w0 w : World} {mb n : Nat} {M : MeshM} {F : Nat → Prop} (h : MB w0 w mb n M F) {a b c : Int} (ha : i64ok a) (hb : i64ok b) (hx : M.fx (minI a b) (maxI a b) = some c) :
    Calls Tryz.prog 53 #[.pointer (some ⟨mb, 0, none⟩), .int .i64 a, .int .i64 b] w fun r w' => r = .returned (.bool true) ∧ MB w0 w' mb (n + 1) (fxM M (delE M.fx (minI a b) (maxI a b))) F := by
  have HFX := Lib.hid (fixed_walk h.at_ ha hb)
  rw [hx] at HFX
  simp only [Option.getD_some, Option.isSome_some] at HFX
  have HN := Lib.hid h.new
  have HKP := Lib.hid h.keep
  obtain ⟨ba, bs, bf, pv, sv, hp⟩ := h.at_
  have hne : some mb ≠ some bf := by have := hp.mb_ne hp.fxm; simpa using this
  have HNE := Lib.hid hne
  have HP := Lib.hid hp
  have HI := Lib.hid (i64ok_min ha hb)
  have HO := Lib.hid (own_walk a b)
  clear h hp hx ha hb hne
  generalize minI a b = u at *
  generalize maxI a b = t at *
  have HKEY := Lib.hid (keyE HI.out.1 HI.out.2)
  unfold kE at HO HKEY
  have HOWN : Hid (∀ w2, Below w.heap.size w w2 → Calls Tryz.prog 62 #[.int .i64 a, .int .i64 b] w2.drew fun r w1 => r = .returned (.agg #[.int .i64 u, .int .i64 t]) ∧ Below w.heap.size w w1 ∧ w1.cell? ⟨mb, 4, none⟩ = some (.map (some bf)) ∧ FMap Tryz.prog w1 94 bf n (edgeV M.fx)) := by
    intro w2 hb2
    refine (HO.out w2.drew).mono ?_
    rintro r w1 ⟨rfl, hb1⟩
    have b1 : Below w.heap.size w w1 := hb2.drew.trans (Below.mono (w := w2.drew) hb1 hb2.size)
    exact ⟨rfl, b1, (HP.out.below b1).c4, (HP.out.below b1).fxm⟩
  go_enter Tryz.func53, Tryz.ntmps53
  go_wp2_with (go_at_call 26; refine HFX.out.mono ?_; rintro r w3 ⟨rfl, hb3⟩)
  have n0 : w3.drew.cell? ⟨mb, 4, none⟩ = some (.map (some bf)) := (HP.out.below hb3).c4
  go_region_held3 (fun w' => w'.cell? ⟨mb, 4, none⟩ = some (.map (some bf))) (first | assumption | exact n2 | exact n1)
    (first
      | (go_at_call 62; refine (HOWN.out _ hb3).mono ?_; rintro r w1 ⟨rfl, b1, n1, hf1⟩)
      | (refine step_delete rfl _ _ 90 94 rfl 3 edgeLaw Tryz.underlying90 bf n (edgeV M.fx) rfl hf1 _ rfl _ HKEY.out ?_
         intro w2 hf2 hg2
         have n2 := hg2.cell n1 HNE.out))
  all_goals
    have hf3 : FMap Tryz.prog w2 94 bf (n + 1) (edgeV (delE M.fx u t)) := by rw [← edgeV_del]; exact hf2.mono (Nat.le_succ n)
    have hp1 := HP.out.below b1
    have hp2 := fx_parts hp1 hf3 hg2
    go_wp2
    go_ret
    refine ⟨rfl, ⟨⟨ba, bs, bf, pv, sv, hp2⟩, HN.out, ?_⟩⟩
    refine ⟨hg2.os.trans (b1.os.trans HKP.out.os), hg2.tape.trans (b1.tape.trans HKP.out.tape), hg2.output.trans (b1.output.trans HKP.out.output), Nat.le_trans HKP.out.size (Nat.le_trans b1.size hg2.size), fun i hi => ?_⟩
    rw [hg2.block i (by have := HKP.out.size; have := b1.size; omega) (by have := HN.out bf hp1.fbf; intro e; cases e; omega), b1.block i (by have := HKP.out.size; omega)]
    exact HKP.out.block i hi

end Go.Proofs.YthookkmgmholcaaGreatDoor

/- Loose where nothing is marked; Point at a nil receiver. -/
namespace Go.Proofs.YthookkmgmholcaaGreatDoor
open Go.RowKit Go.Maps Go.WideMaps

set_option maxRecDepth 100000 in
set_option maxHeartbeats 2000000 in
theorem loose_no {w0 w : World} {mb n : Nat} {M : MeshM} {F : Nat → Prop} (h : MB w0 w mb n M F) {a b : Int} (ha : i64ok a) (hb : i64ok b) (hx : M.fx (minI a b) (maxI a b) = none) :
    Calls Tryz.prog 53 #[.pointer (some ⟨mb, 0, none⟩), .int .i64 a, .int .i64 b] w fun r w' => r = .returned (.bool false) ∧ MB w0 w' mb n M F := by
  have HFX := Lib.hid (fixed_walk h.at_ ha hb)
  rw [hx] at HFX
  simp only [Option.getD_none, Option.isSome_none] at HFX
  have HM := Lib.hid h
  clear h hx ha hb
  go_enter Tryz.func53, Tryz.ntmps53
  go_wp2_with (go_at_call 26; refine HFX.out.mono ?_; rintro r w3 ⟨rfl, hb3⟩)
  go_ret
  exact ⟨rfl, HM.out.below hb3⟩

set_option maxRecDepth 100000 in
set_option maxHeartbeats 1000000 in
theorem nil_Point (i : Int) (w : World) : Calls Tryz.prog 59 #[.pointer none, .int .i64 i] w fun r w' => r = .returned (.tuple #[.agg #[.float .f64 0, .float .f64 0], .bool false]) ∧ Below w.heap.size w w' := by
  have HH := Lib.hid (nil_has i)
  go_enter Tryz.func59, Tryz.ntmps59
  go_wp2_with (go_at_call 61; refine (HH.out _).mono ?_; rintro r w1 ⟨rfl, rfl⟩)
  go_returns
  exact ⟨rfl, (Below.refl _ _).alloc (Nat.le_refl _) _⟩

end Go.Proofs.YthookkmgmholcaaGreatDoor

/- mesh.Of where a triangle is refused. -/
namespace Go.Proofs.YthookkmgmholcaaGreatDoor
open Go.RowKit Go.Maps Go.WideMaps

set_option maxRecDepth 100000 in
set_option maxHeartbeats 2000000 in
theorem of_stop (l : List Pt) (ad : Option Addr) (cap : Nat) (T : List Tri3) (at_ : Option Addr) (capt : Nat) (h64 : ∀ p, p ∈ l → pt64 p) (hk : allCode l = 0) (hl : l.length ≤ 1048576) (hT : T.length ≤ 1000000) (j : Nat) (hj : j < T.length) (c : Int)
    (hok : ∀ k, k < j → makeCode (foldM (emptyM l) (T.take k)) (T.getD k (0, 0, 0)).1 (T.getD k (0, 0, 0)).2.1 (T.getD k (0, 0, 0)).2.2 = 0)
    (hstop : makeCode (foldM (emptyM l) (T.take j)) (T.getD j (0, 0, 0)).1 (T.getD j (0, 0, 0)).2.1 (T.getD j (0, 0, 0)).2.2 = c) (hc0 : c ≠ 0) (w : World) (hc : PCells w ad l) (hct : KCells encT w at_ T) :
    Calls Tryz.prog 14 #[.slice ad l.length cap, .slice at_ T.length capt] w fun r w' => r = .returned (.tuple #[.pointer none, .int .i64 c]) ∧ Below w.heap.size w w' := by
  have HN := Lib.hid (new_mb l ad cap h64 hk hl w w (Below.refl _ _) hc)
  have HTC := Lib.hid hct
  have H64 := Lib.hid h64
  have HL := Lib.hid hl
  have HTL := Lib.hid hT
  have HOK := Lib.hid hok
  have HST := Lib.hid hstop
  have HJ := Lib.hid hj
  have hcz : (c == 0) = false := by simpa using hc0
  clear h64 hk hl hc hct hT hok hstop hj
  go_enter Tryz.func14, Tryz.ntmps14
  go_wp2_with (go_at_call 48; refine HN.out.mono ?_; rintro r w1 ⟨mb, F, rfl, hm1, _, _⟩)
  have HM1 := Lib.hid hm1
  clear hm1
  go_loopw [21] (fun s21 wr => ∃ (k : Nat) (F : Nat → Prop), k ≤ j ∧ s21 = .int .i64 k ∧ Hid (MB w wr mb (3 * k) (foldM (emptyM l) (T.take k)) F)) (fun i _ => T.length - (intOf i).toNat)
  case atStart => exact ⟨0, F, Nat.zero_le _, rfl, HM1.out⟩
  case round =>
    obtain ⟨k, G, hk, rfl, HM⟩ := hrel
    have hlt : k < T.length := Nat.lt_of_le_of_lt hk HJ.out
    obtain ⟨g, rfl, _, q0, q1, q2⟩ := (HTC.out.below HM.out.keep).tri hlt
    have HTS := Lib.hid (take_snocT T k hlt)
    by_cases hkj : k < j
    · have hco := HOK.out k hkj
      clear HST
      generalize T.getD k (0, 0, 0) = t at *
      obtain ⟨ta, tb, tc⟩ := t
      dsimp only at q0 q1 q2 hco
      have HMK : Hid (∀ v, Calls Tryz.prog 43 #[.pointer (some ⟨mb, 0, none⟩), .int .i64 ta, .int .i64 tb, .int .i64 tc] (wr.alloc v) fun r w2 => r = .returned (.int .i64 0) ∧ Hid (∃ F2, MB w w2 mb (3 * (k + 1)) (foldM (emptyM l) (T.take (k + 1))) F2)) := by
        intro v
        refine (make_mb (HM.out.below ((Below.refl _ wr).alloc (Nat.le_refl _) v)) (by rw [foldM_P]; exact H64.out) (by rw [foldM_P]; exact HL.out) (by have := HTL.out; omega) ta tb tc).mono ?_
        rintro r w2 ⟨rfl, hm2, _⟩
        refine ⟨by rw [hco], Fx G (wr.alloc v) w2, ?_⟩
        rw [HTS.out, foldM_snoc]
        exact hm2
      clear hco HOK
      go_wp2_with (go_at_call 43; refine (HMK.out _).mono ?_; rintro r w2 ⟨rfl, HM2⟩)
      clear q0 q1 q2
      go_roundw
      case rel =>
        obtain ⟨F2, hm2⟩ := HM2.out
        exact ⟨k + 1, F2, by omega, (by have := HTL.out; first | rfl | rw [wrapS (by omega)]), hm2⟩
      case measure => have := HTL.out; first | (simp [intOf]; omega) | (rw [wrapS (by omega)]; simp [intOf]; omega)
    · have e : k = j := by omega
      subst e
      have hco := HST.out
      clear HOK HST hkj
      generalize T.getD k (0, 0, 0) = t at *
      obtain ⟨ta, tb, tc⟩ := t
      dsimp only at q0 q1 q2 hco
      have HMK : Hid (∀ v, Calls Tryz.prog 43 #[.pointer (some ⟨mb, 0, none⟩), .int .i64 ta, .int .i64 tb, .int .i64 tc] (wr.alloc v) fun r w2 => r = .returned (.int .i64 c) ∧ Below w.heap.size w w2) := by
        intro v
        refine (make_mb (HM.out.below ((Below.refl _ wr).alloc (Nat.le_refl _) v)) (by rw [foldM_P]; exact H64.out) (by rw [foldM_P]; exact HL.out) (by have := HTL.out; omega) ta tb tc).mono ?_
        rintro r w2 ⟨rfl, hm2, _⟩
        exact ⟨by rw [hco], hm2.keep⟩
      clear hco
      go_wp2_with (go_at_call 43; refine (HMK.out _).mono ?_; rintro r w2 ⟨rfl, hb2⟩)
      go_ret2
      exact ⟨rfl, hb2⟩

end Go.Proofs.YthookkmgmholcaaGreatDoor

/- (*mesh.Mesh).Add at a point that is refused. -/
namespace Go.Proofs.YthookkmgmholcaaGreatDoor
open Go.RowKit Go.Maps Go.WideMaps

set_option maxRecDepth 100000 in
set_option maxHeartbeats 1000000 in
theorem add_bad {mb : Nat} (p : Pt) (h64 : pt64 p) (hp : ptOK p = false) (w : World) :
    Calls Tryz.prog 50 #[.pointer (some ⟨mb, 0, none⟩), V p] w fun r w' => r = .returned (.tuple #[.int .i64 0, .int .i64 10]) ∧ Below w.heap.size w w' := by
  have HM := Lib.hid (fun w1 => may_walk p h64 w1)
  rw [hp] at HM
  clear hp h64
  unfold V at *
  have wa : Below w.heap.size w (w.alloc (.cells #[.float .f64 p.1, .float .f64 p.2] 25)) := (Below.refl _ w).alloc (Nat.le_refl _) _
  go_enter Tryz.func50, Tryz.ntmps50
  go_wp2_with (go_at_call 89; with_reducible refine (HM.out _).mono ?_; rintro r w1 ⟨rfl, hb1⟩)
  go_ret2
  exact ⟨rfl, wa.trans (hb1.mono wa.size)⟩

end Go.Proofs.YthookkmgmholcaaGreatDoor

/- math.NaN. -/
namespace Go.Proofs.YthookkmgmholcaaGreatDoor
open Go.RowKit Go.Maps Go.WideMaps

set_option maxRecDepth 100000 in
set_option maxHeartbeats 1000000 in
theorem nan_walk (w : World) : Calls Tryz.prog 57 #[] w fun r w' => r = .returned (.float .f64 9221120237041090561) ∧ w' = w := by
  go_enter Tryz.func57, Tryz.ntmps57
  go_wp2_with go_in
  go_ret
  exact ⟨rfl, rfl⟩
theorem nan_not : ptOK (9221120237041090561, 0) = false := by decide +kernel

end Go.Proofs.YthookkmgmholcaaGreatDoor
