/- Part of the proof. No conditions. -/
import Derived.Test.YtdoaniccefdkaaaGreatDoorZM
import Derived.Test.YtdoaniccefdkaaaGreatDoorZP
import Derived.Test.YtdoaniccefdkaaaGreatDoorZZ
import Derived.Shelf.SlMaps.Clone

set_option linter.all false
/- (*mesh.Mesh).Fix, whatever it is handed; what else lies in memory stays. -/
namespace Go.Proofs.YtdoaniccefdkaaaGreatDoor
open Go.RowKit Go.Maps Go.WideMaps

set_option maxRecDepth 100000 in
set_option maxHeartbeats 2000000 in
theorem fix_ok2 {w0 w : World} {mb n : Nat} {M : MeshM} {F : Nat → Prop} (h : MB w0 w mb n M F) (hn : n ≤ 1000000000) {a b v : Int} (ha : i64ok a) (hb : i64ok b) (hx : hasM M a = true) (hy : hasM M b = true) (hab : a ≠ b) :
    Calls Tryz.prog 33 #[.pointer (some ⟨mb, 0, none⟩), .int .i64 a, .int .i64 b, .int .i64 v] w fun r w' => r = .returned (.int .i64 0) ∧ MB w0 w' mb (n + 1) (fxM M (upE M.fx (minI a b) (maxI a b) v)) F ∧ Stay F w w' := by
  have HA := Lib.hid (has_walk h.at_ a)
  have HB := Lib.hid (has_walk h.at_ b)
  rw [hx] at HA
  rw [hy] at HB
  have HN := Lib.hid h.new
  have HKP := Lib.hid h.keep
  obtain ⟨ba, bs, bf, pv, sv, hp⟩ := h.at_
  have n0 : w.drew.cell? ⟨mb, 4, none⟩ = some (.map (some bf)) := hp.c4
  have hne : some mb ≠ some bf := by have := hp.mb_ne hp.fxm; simpa using this
  have HNE := Lib.hid hne
  have HO := Lib.hid (own_walk a b)
  have HP := Lib.hid hp
  have HI := Lib.hid (i64ok_min ha hb)
  have HL := Lib.hid hn
  clear h hp hx hy ha hb hne hn
  generalize minI a b = u at *
  generalize maxI a b = t at *
  unfold kE at HO
  have HST : Hid (∀ w1, FMap Tryz.prog w1 117 bf n (edgeV M.fx) → ∃ w2, (Instr.mapUpdate 113 (.map (some bf)) (.agg #[.int .i64 u, .int .i64 t]) (.int .i64 v)).run Tryz.prog w1 = .ok () w2 ∧ FMap Tryz.prog w2 117 bf (n + 1) (edgeV (upE M.fx u t v)) ∧ w1.grownBy w2 (some bf)) := by
    intro w1 h1
    rw [← edgeV_up]
    exact h1.store edgeLaw Tryz.underlying113 (by have := HL.out; unfold maxLen; omega) (keyE HI.out.1 HI.out.2) (.int .i64 v)
  have HOWN : Hid (Calls Tryz.prog 71 #[.int .i64 a, .int .i64 b] w.drew fun r w1 => r = .returned (.agg #[.int .i64 u, .int .i64 t]) ∧ ∃ w2, Below w.heap.size w w1 ∧ w1.cell? ⟨mb, 4, none⟩ = some (.map (some bf)) ∧ (Instr.mapUpdate 113 (.map (some bf)) (.agg #[.int .i64 u, .int .i64 t]) (.int .i64 v)).run Tryz.prog w1 = .ok () w2 ∧ FMap Tryz.prog w2 117 bf (n + 1) (edgeV (upE M.fx u t v)) ∧ w1.grownBy w2 (some bf) ∧ w2.cell? ⟨mb, 4, none⟩ = some (.map (some bf))) := by
    refine (HO.out w.drew).mono ?_
    rintro r w1 ⟨rfl, hb1⟩
    have b1 : Below w.heap.size w w1 := (Below.refl w.heap.size w).drew.trans hb1
    have hp1 := HP.out.below b1
    obtain ⟨w2, hrun2, hf2, hg2⟩ := HST.out w1 hp1.fxm
    exact ⟨rfl, w2, b1, hp1.c4, hrun2, hf2, hg2, hg2.cell hp1.c4 HNE.out⟩
  go_enter Tryz.func33, Tryz.ntmps33
  go_wp2_with (first
    | (go_at_call 89; with_reducible refine HA.out.mono ?_; rintro r w1 ⟨rfl, rfl⟩)
    | (go_at_call 89; with_reducible refine HB.out.mono ?_; rintro r w1 ⟨rfl, rfl⟩))
  go_region_held3 (fun w' => w'.cell? ⟨mb, 4, none⟩ = some (.map (some bf))) (first | assumption | exact n2 | exact n1)
    (first | (go_at_call 71; refine HOWN.out.mono ?_; rintro r w1 ⟨rfl, w2, b1, n1, hrun2, hf2, hg2, n2⟩))
  all_goals
    have hp1 := HP.out.below b1
    have hp2 := fx_parts hp1 hf2 hg2
    go_wp2
    go_ret
    refine ⟨rfl, ⟨⟨ba, bs, bf, pv, sv, hp2⟩, HN.out, ?_⟩, (Stay.of_below b1).trans (Stay.of_grown hg2 (fun j e => .inl (by cases e; exact hp1.fbf)))⟩
    refine ⟨hg2.os.trans (b1.os.trans HKP.out.os), hg2.tape.trans (b1.tape.trans HKP.out.tape), hg2.output.trans (b1.output.trans HKP.out.output), Nat.le_trans HKP.out.size (Nat.le_trans b1.size hg2.size), fun i hi => ?_⟩
    rw [hg2.block i (by have := HKP.out.size; have := b1.size; omega) (by have := HN.out bf hp1.fbf; intro e; cases e; omega), b1.block i (by have := HKP.out.size; omega)]
    exact HKP.out.block i hi

/-- Fix, whatever it is handed -/
theorem fix_any {w0 w : World} {mb n : Nat} {M : MeshM} {F : Nat → Prop} (h : MB w0 w mb n M F) (hn : n ≤ 1000000000) {a b : Int} (v : Int) (ha : i64ok a) (hb : i64ok b) :
    Calls Tryz.prog 33 #[.pointer (some ⟨mb, 0, none⟩), .int .i64 a, .int .i64 b, .int .i64 v] w fun r w' => ∃ (k : Int) (n' : Nat) (f : Int → Int → Option Int), r = .returned (.int .i64 k) ∧ n' ≤ n + 1 ∧ MB w0 w' mb n' (fxM M f) F ∧ Stay F w w' := by
  by_cases hx : hasM M a = true
  · by_cases hy : hasM M b = true
    · by_cases hab : a = b
      · subst hab
        refine (fix_same h.at_ a v hx).mono ?_
        rintro r w' ⟨rfl, rfl⟩
        exact ⟨_, n, M.fx, rfl, Nat.le_succ _, h, Stay.refl _ _⟩
      · refine (fix_ok2 h hn ha hb hx hy hab).mono ?_
        rintro r w' ⟨rfl, h1, h2⟩
        exact ⟨_, n + 1, _, rfl, Nat.le_refl _, h1, h2⟩
    · refine (fix_none h.at_ a b v (.inr ⟨hx, by simpa using hy⟩)).mono ?_
      rintro r w' ⟨rfl, rfl⟩
      exact ⟨_, n, M.fx, rfl, Nat.le_succ _, h, Stay.refl _ _⟩
  · refine (fix_none h.at_ a b v (.inl (by simpa using hx))).mono ?_
    rintro r w' ⟨rfl, rfl⟩
    exact ⟨_, n, M.fx, rfl, Nat.le_succ _, h, Stay.refl _ _⟩

end Go.Proofs.YtdoaniccefdkaaaGreatDoor

/- (*mesh.Mesh).Add at a point that is refused. -/
namespace Go.Proofs.YtdoaniccefdkaaaGreatDoor
open Go.RowKit Go.Maps Go.WideMaps

set_option maxRecDepth 100000 in
set_option maxHeartbeats 1000000 in
theorem add_bad {mb : Nat} (p : Pt) (h64 : pt64 p) (hp : ptOK p = false) (w : World) :
    Calls Tryz.prog 31 #[.pointer (some ⟨mb, 0, none⟩), V p] w fun r w' => r = .returned (.tuple #[.int .i64 0, .int .i64 10]) ∧ Below w.heap.size w w' := by
  have HM := Lib.hid (fun w1 => may_walk p h64 w1)
  rw [hp] at HM
  clear hp h64
  unfold V at *
  have wa : Below w.heap.size w (w.alloc (.cells #[.float .f64 p.1, .float .f64 p.2] 52)) := (Below.refl _ w).alloc (Nat.le_refl _) _
  go_enter Tryz.func31, Tryz.ntmps31
  go_wp2_with (go_at_call 95; with_reducible refine (HM.out _).mono ?_; rintro r w1 ⟨rfl, hb1⟩)
  go_ret2
  exact ⟨rfl, wa.trans (hb1.mono wa.size)⟩

end Go.Proofs.YtdoaniccefdkaaaGreatDoor

/- slices.Clone of a row of numbers. -/
namespace Go.Proofs.YtdoaniccefdkaaaGreatDoor
open Go.RowKit Go.Maps Go.WideMaps

set_option maxRecDepth 100000 in
set_option maxHeartbeats 1000000 in
theorem cloneI_nil (cap : Nat) (w : World) :
    Calls Tryz.prog 98 #[.slice none 0 cap] w fun e w' => e = .returned (.slice none 0 0) ∧ w' = w := by
  have q22 : ∀ (w : World) (a : Option Addr) (n c n' c' : Nat), (binOp .eql 72 (.slice a n c) (.slice none n' c')).run Tryz.prog w = .ok (.bool a.isNone) w := fun w a n c n' c' => Lib.run_eql_slice_nil w _ _ a n c n' c' Tryz.underlying72
  go_enter Tryz.func98, Tryz.ntmps98
  go_wp2
  go_ret
  exact ⟨rfl, rfl⟩

set_option maxRecDepth 100000 in
set_option maxHeartbeats 1000000 in
theorem cloneI_some (l : List Int) (a : Addr) (cap : Nat) (hl : l.length ≤ 2000000000) (w : World) (hc : ∀ j u, (l.map (Value.int .i64))[j]? = some u → w.cell? (a.add j) = some u) :
    Calls Tryz.prog 98 #[.slice (some a) l.length cap] w fun e w' => ∃ v', e = .returned v' ∧ w'.ownsRow w.heap.size 3 1 v' l.length (l.map (Value.int .i64)) ∧ Below w.heap.size w w' := by
  obtain ⟨i0, hi, hz0, hz1, hz2⟩ := info_parts infoInt
  have HC := Lib.hid hc
  clear hc
  have h1 := Lib.hid (ints_oneCell .i64 l)
  have q22 : ∀ (w : World) (a : Option Addr) (n c n' c' : Nat), (binOp .eql 72 (.slice a n c) (.slice none n' c')).run Tryz.prog w = .ok (.bool a.isNone) w := fun w a n c n' c' => Lib.run_eql_slice_nil w _ _ a n c n' c' Tryz.underlying72
  go_enter Tryz.func98, Tryz.ntmps98
  go_wp2_with (at_builtin; refine wpList_append_own _ rfl _ _ 72 rfl w.heap.size 3 i0 (.int .i64 0) 1 8 Tryz.underlying72 hi hz0 hz1 hz2 rfl (by decide) _ _ _ rfl (World.ownsRow_made w #[] 0 (Nat.le_refl _) (Nat.zero_le _) (by simp)) a l.length cap (l.map (Value.int .i64)) rfl ?qc1 ?qc2 ?qc3 ?qc4 ?qc5 ?qc6 ?_)
  case qc1 => simp
  case qc2 => intro j u hj; exact Lib.cell?_alloc_some _ (HC.out j u hj)
  case qc3 => exact h1.out
  case qc4 => unfold maxLen; omega
  case qc5 => omega
  case qc6 => simp
  intro v' w1 hown hgrow hnil
  go_wp2
  go_ret
  refine ⟨v', rfl, by simpa using hown, ((Below.refl _ w).alloc (Nat.le_refl _) _).grown hgrow (by simp) (by intro k hk; simp [Value.ownBlock] at hk; omega)⟩

theorem cloneI_walk {w : World} {v : Value} {l : List Int} (h : w.ownsInts 0 3 .i64 v l) (hl : l.length ≤ 2000000000) :
    Calls Tryz.prog 98 #[v] w fun e w' => ∃ v', e = .returned v' ∧ w'.ownsInts w.heap.size 3 .i64 v' l ∧ Below w.heap.size w w' := by
  obtain ⟨ad, cap, rfl, hc⟩ := ints_cells h
  cases ad with
  | none =>
    have h0 : l.length = 0 := by
      apply Classical.byContradiction; intro hn
      obtain ⟨_, e, _⟩ := hc (by omega)
      cases e
    have : l = [] := List.length_eq_zero_iff.1 h0
    subst this
    refine (cloneI_nil cap w).mono ?_
    rintro r w' ⟨rfl, rfl⟩
    exact ⟨_, rfl, World.ownsInts_nil _ _ _ _, Below.refl _ _⟩
  | some a =>
    refine (cloneI_some l a cap hl w ?_).mono ?_
    · intro j u hu
      have hj : j < l.length := by simpa using (List.getElem?_eq_some_iff.1 hu).1
      obtain ⟨g, e, _, hcc⟩ := hc (by omega)
      cases e
      rw [Addr.add_lit, Nat.zero_add, hcc j hj, ← hu, List.getElem?_map, List.getElem?_eq_getElem hj, List.getD_eq_getElem?_getD, List.getElem?_eq_getElem hj]
      rfl
    · rintro r w' ⟨v', rfl, ho, hb⟩
      exact ⟨v', rfl, ⟨ho, h.2⟩, hb⟩

end Go.Proofs.YtdoaniccefdkaaaGreatDoor

/- maps.Clone of a map of edges. -/
namespace Go.Proofs.YtdoaniccefdkaaaGreatDoor
open Go.RowKit Go.Maps Go.WideMaps

theorem cloneMap_walk {b n : Nat} {f : Value → Option Value} {w : World} (h : FMap Tryz.prog w 117 b n f) :
    Calls Tryz.prog 97 #[.map (some b)] w fun e w' => e = .returned (.map (some w.heap.size)) ∧ FMap Tryz.prog w' 117 w.heap.size n f ∧ Below w.heap.size w w' := by
  obtain ⟨D, hown, hD⟩ := h
  have hc := AnyW.maps_Clone_owns (P := Tryz.prog) Tryz.cloneMap 117 tokR b n D w hown
  change Calls Tryz.prog 97 _ _ _ at hc
  refine hc.mono ?_
  rintro r w' ⟨rfl, h1, _, hb⟩
  exact ⟨rfl, ⟨D, h1, hD⟩, hb⟩

end Go.Proofs.YtdoaniccefdkaaaGreatDoor

/- What a range over a mesh's spokes has copied so far; a mesh beside another one. -/
namespace Go.Proofs.YtdoaniccefdkaaaGreatDoor
open Go.RowKit Go.Maps Go.WideMaps

theorem FRange.cnt_le {P : Program} {k : TypeId} {w : World} {b r n cnt : Nat} {f : Value → Option Value} {lf : Value → Bool} (h : FRange P w k b r n f lf cnt) : cnt ≤ n := by
  obtain ⟨D, left, ⟨es, clock, since, seen, c0, hb, hF, hs, hD, hr, hold, hc, h3⟩, h2⟩ := h
  rw [← hc]
  unfold leftOf
  exact Nat.le_trans (Array.size_filter_le ..) hs

theorem FMap.keyed {P : Program} {k : TypeId} {w : World} {b n : Nat} {f : Value → Option Value} (h : FMap P w k b n f) {key : Value} (hk : f key ≠ none) : ∃ kl, keyOf P k key = some kl := by
  obtain ⟨D, _, hD⟩ := h; exact hD.key key hk

/-- the rows that a range has copied: lf says which keys are still to come -/
structure CRows (w : World) (base : Nat) (lf : Value → Bool) (sv sv2 : Int → Option Value) (sp : Int → List Int) : Prop where
  non : ∀ a, sv2 a = Option.none → sv a = Option.none ∨ lf (vI a) = true
  own : ∀ a v, sv2 a = some v → w.ownsInts base 3 .i64 v (sp a)
  dis : ∀ a a' v v', a ≠ a' → sv2 a = some v → sv2 a' = some v' → v.ownBlock = Option.none ∨ v.ownBlock ≠ v'.ownBlock

theorem CRows.start {w : World} {base : Nat} {lf : Value → Bool} {sv : Int → Option Value} {sp : Int → List Int} (h : ∀ a, sv a ≠ none → lf (vI a) = true) : CRows w base lf sv (fun _ => none) sp :=
  ⟨fun a _ => (Classical.em (sv a = none)).imp id (h a), fun _ _ e => (by cases e), fun _ _ _ _ _ e => (by cases e)⟩

theorem CRows.lt {w : World} {base : Nat} {lf : Value → Bool} {sv sv2 : Int → Option Value} {sp : Int → List Int} (h : CRows w base lf sv sv2 sp) {a : Int} {v : Value} {g : Nat} (hv : sv2 a = some v) (hg : v.ownBlock = some g) : base ≤ g ∧ g < w.heap.size :=
  (h.own a v hv).1.lt g hg

theorem CRows.same {w w' : World} {base : Nat} {lf : Value → Bool} {sv sv2 : Int → Option Value} {sp : Int → List Int} (h : CRows w base lf sv sv2 sp) (hb : ∀ g, base ≤ g → g < w.heap.size → w'.heap[g]? = w.heap[g]?) : CRows w' base lf sv sv2 sp :=
  ⟨h.non, fun a v hv => ⟨ownsRow_same (h.own a v hv).1 fun g hg => hb g (h.lt hv hg).1 (h.lt hv hg).2, (h.own a v hv).2⟩, h.dis⟩

theorem CRows.step {w : World} {base low : Nat} {lf lf' : Value → Bool} {sv sv2 : Int → Option Value} {sp : Int → List Int} {a : Int} {v : Value} (h : CRows w base lf sv sv2 sp) (hlow : ∀ a' v' g, sv2 a' = some v' → v'.ownBlock = some g → g < low) (hbl : base ≤ low)
    (hv : w.ownsInts low 3 .i64 v (sp a)) (hl2 : ∀ y, y ≠ vI a → lf' y = lf y) : CRows w base lf' sv (upI sv2 a (some v)) sp := by
  refine ⟨fun x hx => ?_, fun x u hx => ?_, fun x y u t hne hx hy => ?_⟩
  · unfold upI at hx
    split at hx
    · cases hx
    · rename_i hxa
      exact (h.non x hx).imp id fun e => by rw [hl2 _ (fun e2 => hxa (vI_inj.1 e2))]; exact e
  · unfold upI at hx
    split at hx
    · rename_i hxa
      cases hx; subst hxa
      exact ⟨ownsRow_down hbl hv.1, hv.2⟩
    · exact h.own x u hx
  · unfold upI at hx hy
    split at hx
    · rename_i hxa
      cases hx
      split at hy
      · rename_i hya; exact absurd (hxa.trans hya.symm) hne
      · cases e : v.ownBlock with
        | none => exact .inl rfl
        | some g =>
          right; intro e2
          have h1 := (hv.1.lt g e).1
          have h2 := hlow y t g hy e2.symm
          omega
    · split at hy
      · rename_i hya
        cases hy
        cases e : u.ownBlock with
        | none => exact .inl rfl
        | some g =>
          right; intro e2
          have h1 := (hv.1.lt g e2.symm).1
          have h2 := hlow x u g hx e
          omega
      · exact h.dis x y u t hne hx hy

theorem CRows.down {w : World} {base base' : Nat} {lf : Value → Bool} {sv sv2 : Int → Option Value} {sp : Int → List Int} (h : CRows w base lf sv sv2 sp) (hb : base' ≤ base) : CRows w base' lf sv sv2 sp :=
  ⟨h.non, fun a v hv => ⟨ownsRow_down hb (h.own a v hv).1, (h.own a v hv).2⟩, h.dis⟩

/-- what stands ahead of the range: the new mesh, without spokes -/
structure Head (w w1 : World) (mb ba bs bf n : Nat) (pv : Value) (M : MeshM) : Prop where
  c0 : w1.cell? ⟨mb, 0, none⟩ = some pv
  c1 : w1.cell? ⟨mb, 1, none⟩ = some (.map (some ba))
  c2 : w1.cell? ⟨mb, 2, none⟩ = some (.map (some bs))
  c3 : w1.cell? ⟨mb, 3, none⟩ = some (.int .i64 M.cnt)
  c4 : w1.cell? ⟨mb, 4, none⟩ = some (.map (some bf))
  fz : ∀ i, w1.frozen? ⟨mb, i, none⟩ = false
  pts : w1.ownsRow w.heap.size 52 2 pv M.P.length (cellsP M.P)
  apm : FMap Tryz.prog w1 117 ba n (edgeV M.ap)
  fxm : FMap Tryz.prog w1 117 bf n (edgeV M.fx)
  spm : FMap Tryz.prog w1 3 bs 0 (intV fun _ => none)
  nab : ba ≠ bs
  naf : ba ≠ bf
  nsf : bs ≠ bf
  npm : pv.ownBlock ≠ some mb
  nps : pv.ownBlock ≠ some bs
  nmb : mb ≠ bs
  lo : w.heap.size ≤ mb ∧ w.heap.size ≤ ba ∧ w.heap.size ≤ bs ∧ w.heap.size ≤ bf
  hi : mb < w1.heap.size
  bel : Below w.heap.size w w1

/-- the new mesh behind the range -/
theorem Head.done {w w1 w2 : World} {mb ba bs bf n n2 : Nat} {pv : Value} {M : MeshM} {sv sv2 : Int → Option Value} {lf : Value → Bool} (h : Head w w1 mb ba bs bf n pv M) (hst : ∀ i, i < w1.heap.size → i ≠ bs → w2.heap[i]? = w1.heap[i]?) (hsz : w1.heap.size ≤ w2.heap.size) (hn2 : n2 ≤ n)
    (hf : FMap Tryz.prog w2 3 bs n2 (intV sv2)) (hr : CRows w2 w1.heap.size lf sv sv2 M.sp) (hlf : ∀ k, lf k = false) (hsp : ∀ a, sv a = none → M.sp a = []) (hspl : ∀ a, (M.sp a).length ≤ n) (hcb : -(n : Int) ≤ M.cnt ∧ M.cnt ≤ n) :
    MeshAt w2 mb n M (fun i => w.heap.size ≤ i ∧ i < w2.heap.size) := by
  have hs := h.bel.size
  have hc : ∀ i, w2.cell? ⟨mb, i, none⟩ = w1.cell? ⟨mb, i, none⟩ := fun i => World.cell?_of_block (hst mb h.hi h.nmb)
  have hla := h.apm.lt
  have hlf' := h.fxm.lt
  have hlb := h.spm.lt
  have hlo := h.lo
  have hhi := h.hi
  have hpv : ∀ g, pv.ownBlock = some g → w.heap.size ≤ g ∧ g < w1.heap.size := fun g hg => h.pts.lt g hg
  exact ⟨ba, bs, bf, pv, sv2, (hc 0).trans h.c0, (hc 1).trans h.c1, (hc 2).trans h.c2, (hc 3).trans h.c3, (hc 4).trans h.c4, fun i => (World.frozen?_of_block (hst mb h.hi h.nmb)).trans (h.fz i),
    ownsRow_down (Nat.zero_le _) (ownsRow_same h.pts fun g hg => hst g (hpv g hg).2 (fun e => h.nps (by rw [hg, e]))),
    h.apm.same (hst ba hla h.nab), hf.mono hn2, h.fxm.same (hst bf hlf' (fun e => h.nsf e.symm)),
    ⟨fun a ha => hsp a ((hr.non a ha).resolve_right (by rw [hlf]; simp)), fun a v hv => ⟨ownsRow_down (Nat.zero_le _) (hr.own a v hv).1, (hr.own a v hv).2⟩, hr.dis, fun a v g hv hg => ⟨⟨by have := (hr.lt hv hg).1; omega, (hr.lt hv hg).2⟩, fun e => by
      have h1 := (hr.lt hv hg).1
      rcases e with e | e
      · omega
      · have := (hpv g e).2; omega⟩⟩,
    h.nab, h.naf, h.nsf, h.npm, ⟨hlo.1, by omega⟩, ⟨hlo.2.1, by omega⟩, ⟨hlo.2.2.1, by omega⟩, ⟨hlo.2.2.2, by omega⟩, fun g hg => ⟨(hpv g hg).1, by have := (hpv g hg).2; omega⟩, fun g hg => hg.2, hspl, hcb⟩

/-- one mesh stays while another one turns -/
theorem MB.apart {w0 w w' : World} {mb n : Nat} {M : MeshM} {F G : Nat → Prop} (h : MB w0 w mb n M F) (hs : Stay G w w') (hk : Below w0.heap.size w0 w') (hd : ∀ i, F i → ¬G i) : MB w0 w' mb n M F :=
  ⟨h.at_.same hs.size fun g hg => hs.block g (h.at_.flt g hg) (hd g hg), h.new, hk⟩

end Go.Proofs.YtdoaniccefdkaaaGreatDoor

/- A mesh and the document's, side by side. -/
namespace Go.Proofs.YtdoaniccefdkaaaGreatDoor
open Go.RowKit Tvf Go.Maps Go.WideMaps

theorem RM.lt {w : World} {B xb : Nat} {P : List Pt} {T : List Tri3} {S : List Seg3} {R : Nat → Prop} (h : RM w B xb P T S R) : ∀ i, R i → i < w.heap.size := by
  obtain ⟨ad, cap, vT, vS, _, _, h3⟩ := h
  exact h3
theorem fxM_sound15 {M : MeshM} (h : Sound M) (f : Int → Int → Option Int) : Sound (fxM M f) := ⟨h.rot, h.win, h.sgn, h.cnt, h.sp⟩

structure BO (w wr : World) (l : List Pt) (mb xb nm nt ns : Nat) (B n : Nat) (M : MeshM) (F : Nat → Prop) (T : List Tri3) (S : List Seg3) (R : Nat → Prop) : Prop where
  m : MB w wr mb n M F
  x : RM wr B xb l T S R
  sd : Sound M
  P : M.P = l
  hn : n ≤ nm
  ht : T.length ≤ nt
  hs : S.length ≤ ns
  off : ∀ i, R i → ¬F i
  new : ∀ i, R i → w.heap.size ≤ i
/-- both meshes, made since w; counts bounded -/
def BOx (w wr : World) (l : List Pt) (mb xb nm nt ns : Nat) : Prop := ∃ B n M F T S R, BO w wr l mb xb nm nt ns B n M F T S R

section
variable {w wr w' : World} {l : List Pt} {mb xb nm nt ns nm' nt' ns' : Nat}
theorem BOx.keep (h : BOx w wr l mb xb nm nt ns) : Below w.heap.size w wr := by obtain ⟨B, n, M, F, T, S, R, H⟩ := h; exact H.m.keep
theorem BOx.below (h : BOx w wr l mb xb nm nt ns) (hb : Below wr.heap.size wr w') : BOx w w' l mb xb nm nt ns := by
  obtain ⟨B, n, M, F, T, S, R, H⟩ := h
  exact ⟨B, n, M, F, T, S, R, H.m.below hb, H.x.below hb, H.sd, H.P, H.hn, H.ht, H.hs, H.off, H.new⟩
theorem BOx.drew (h : BOx w wr l mb xb nm nt ns) : BOx w wr.drew l mb xb nm nt ns := h.below (Below.refl _ _).drew

theorem BO.turn_x {B n : Nat} {M : MeshM} {F : Nat → Prop} {T T' : List Tri3} {S S' : List Seg3} {R : Nat → Prop} (H : BO w wr l mb xb nm nt ns B n M F T S R) (hst : Stay R wr w') (hx : RM w' B xb l T' S' (Fx R wr w')) (h1 : T'.length ≤ nt') (h2 : S'.length ≤ ns') : BO w w' l mb xb nm nt' ns' B n M F T' S' (Fx R wr w') := by
  have hk : Below w.heap.size w w' := ⟨hst.os.trans H.m.keep.os, hst.tape.trans H.m.keep.tape, hst.output.trans H.m.keep.output, Nat.le_trans H.m.keep.size hst.size, fun i hi => (hst.block i (Nat.lt_of_lt_of_le hi H.m.keep.size) (fun e => by have := H.new i e; omega)).trans (H.m.keep.block i hi)⟩
  refine ⟨H.m.apart hst hk (fun i hi e => H.off i e hi), hx, H.sd, H.P, H.hn, h1, h2, fun i hi e => ?_, fun i hi => ?_⟩
  · rcases hi with hi | hi
    · exact H.off i hi e
    · have := H.m.at_.flt i e; omega
  · rcases hi with hi | hi
    · exact H.new i hi
    · exact Nat.le_trans H.m.keep.size hi.1

theorem BOx.make_m (h : BOx w wr l mb xb nm nt ns) (h64 : ∀ p, p ∈ l → pt64 p) (hl : l.length ≤ 1048576) (hb : nm ≤ 1000000) (a b c : Int) :
    Calls Tryz.prog 28 #[.pointer (some ⟨mb, 0, none⟩), .int .i64 a, .int .i64 b, .int .i64 c] wr fun r w' => (∃ k : Int, r = .returned (.int .i64 k)) ∧ Hid (BOx w w' l mb xb (nm + 3) nt ns) := by
  obtain ⟨B, n, M, F, T, S, R, H⟩ := h
  have hn := H.hn
  refine (make_mb H.m (by rw [H.P]; exact h64) (by rw [H.P]; exact hl) (by omega) a b c).mono ?_
  rintro r w' ⟨rfl, h1, h2⟩
  refine ⟨⟨_, rfl⟩, B, n + 3, _, _, T, S, R, h1, H.x.stay h2 H.off, makeR_sound H.sd _ _ _, (makeR_P _ _ _ _).trans H.P, by omega, H.ht, H.hs, fun i hi e => e.elim (H.off i hi) (fun e => by have := H.x.lt i hi; omega), H.new⟩

theorem BOx.make_x (h : BOx w wr l mb xb nm nt ns) (h64 : ∀ p, p ∈ l → pt64 p) (hb : nt ≤ 1000000) (a b c : Int) :
    Calls Tryz.prog 25 #[.pointer (some ⟨xb, 0, none⟩), .int .i64 a, .int .i64 b, .int .i64 c] wr fun r w' => (∃ k : Int, r = .returned (.int .i64 k)) ∧ Hid (BOx w w' l mb xb nm (nt + 1) ns) := by
  obtain ⟨B, n, M, F, T, S, R, H⟩ := h
  obtain ⟨ad, cap, vT, vS, h1, h2, h3⟩ := H.x
  have ht := H.ht
  refine (make15s h1 h64 (by omega) a b c).mono ?_
  rintro r w' ⟨rfl, vT', k1, k2, k3⟩
  have hst : Stay R wr w' := k2.mono h2
  refine ⟨⟨_, rfl⟩, B, n, M, F, _, S, _, H.turn_x hst ⟨ad, cap, vT', vS, k1, fun i hi => ?_, fun i hi => ?_⟩ ?_ H.hs⟩
  · rcases hi with hi | hi | hi | hi
    · exact .inl (h2 i (.inl hi))
    · exact .inl (h2 i (.inr (.inl hi)))
    · rcases k3 i hi with e | e
      · exact .inl (h2 i (.inr (.inr (.inl e))))
      · exact .inr ⟨e, (k1.tri.lt i hi).2⟩
    · exact .inl (h2 i (.inr (.inr (.inr hi))))
  · rcases hi with hi | hi
    · exact Nat.lt_of_lt_of_le (h3 i hi) hst.size
    · exact hi.2
  · unfold mkR
    split
    · rw [List.length_append]; exact Nat.add_le_add_right ht 1
    · omega

theorem BOx.fix_m (h : BOx w wr l mb xb nm nt ns) (hb : nm ≤ 1000000) {a b : Int} (v : Int) (ha : i64ok a) (hb' : i64ok b) :
    Calls Tryz.prog 33 #[.pointer (some ⟨mb, 0, none⟩), .int .i64 a, .int .i64 b, .int .i64 v] wr fun r w' => (∃ k : Int, r = .returned (.int .i64 k)) ∧ Hid (BOx w w' l mb xb (nm + 1) nt ns) := by
  obtain ⟨B, n, M, F, T, S, R, H⟩ := h
  have hn := H.hn
  refine (fix_any H.m (by omega) v ha hb').mono ?_
  rintro r w' ⟨k, n', f, rfl, hn', h1, h2⟩
  exact ⟨⟨_, rfl⟩, B, n', _, F, T, S, R, h1, H.x.stay h2 H.off, fxM_sound15 H.sd _, H.P, by omega, H.ht, H.hs, H.off, H.new⟩

theorem BOx.fix_x (h : BOx w wr l mb xb nm nt ns) (hb : ns ≤ 1000000) (a b v : Int) :
    Calls Tryz.prog 34 #[.pointer (some ⟨xb, 0, none⟩), .int .i64 a, .int .i64 b, .int .i64 v] wr fun r w' => (∃ k : Int, r = .returned (.int .i64 k)) ∧ Hid (BOx w w' l mb xb nm nt (ns + 1)) := by
  obtain ⟨B, n, M, F, T, S, R, H⟩ := h
  obtain ⟨ad, cap, vT, vS, h1, h2, h3⟩ := H.x
  have hs := H.hs
  refine (fix15s h1 (by omega) a b v).mono ?_
  rintro r w' ⟨hr, S', vS', k1, kl, k2, k3⟩
  have hst : Stay R wr w' := k2.mono (fun i e => h2 i (.inl e))
  refine ⟨hr, B, n, M, F, T, S', _, H.turn_x hst ⟨ad, cap, vT, vS', k1, fun i hi => ?_, fun i hi => ?_⟩ H.ht (by omega)⟩
  · rcases hi with hi | hi | hi | hi
    · exact .inl (h2 i (.inl hi))
    · exact .inl (h2 i (.inr (.inl hi)))
    · exact .inl (h2 i (.inr (.inr (.inl hi))))
    · rcases k3 i hi with e | e
      · exact .inl (h2 i (.inr (.inr (.inr e))))
      · exact .inr ⟨e, (k1.seg.lt i hi).2⟩
  · rcases hi with hi | hi
    · exact Nat.lt_of_lt_of_le (h3 i hi) hst.size
    · exact hi.2
end

/-- a row of segments, as the walk reads it -/
def SCells (w : World) (ad : Option Addr) (l : List Seg3) : Prop :=
  0 < l.length → ∃ b off, ad = some ⟨b, off, none⟩ ∧ b < w.heap.size ∧ ∀ i, i < l.length →
    w.cell? ⟨b, off + i * 3, none⟩ = some (.int .i64 (l.getD i (0, 0, 0)).1) ∧ w.cell? ⟨b, off + i * 3 + 1, none⟩ = some (.int .i64 (l.getD i (0, 0, 0)).2.1) ∧ w.cell? ⟨b, off + i * 3 + 2, none⟩ = some (.int .i64 (l.getD i (0, 0, 0)).2.2)
theorem SCells.below {w w' : World} {ad : Option Addr} {l : List Seg3} (h : SCells w ad l) (hb : Below w.heap.size w w') : SCells w' ad l := by
  intro hl
  obtain ⟨b, off, rfl, hbb, hc⟩ := h hl
  exact ⟨b, off, rfl, Nat.lt_of_lt_of_le hbb hb.size, fun i hi => ⟨cell_keep (hc i hi).1 hb, cell_keep (hc i hi).2.1 hb, cell_keep (hc i hi).2.2 hb⟩⟩

theorem bo_new {w w1 w2 : World} {l : List Pt} {mb xb B : Nat} {F R : Nat → Prop} (hm : MB w w1 mb 0 (emptyM l) F) (hx : RM w2 B xb l [] [] R) (hb : Below w1.heap.size w1 w2) (hR : ∀ i, R i → w1.heap.size ≤ i) : BOx w w2 l mb xb 0 0 0 :=
  ⟨B, 0, emptyM l, F, [], [], R, hm.below hb, hx, emptyM_sound l, rfl, Nat.le_refl _, Nat.le_refl _, Nat.le_refl _, fun i hi e => by have := hm.at_.flt i e; have := hR i hi; omega, fun i hi => Nat.le_trans hm.keep.size (hR i hi)⟩

end Go.Proofs.YtdoaniccefdkaaaGreatDoor
