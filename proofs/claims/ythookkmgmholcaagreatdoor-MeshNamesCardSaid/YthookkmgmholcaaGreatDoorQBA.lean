/- What a range over a mesh's spokes has copied so far; a mesh beside another one. -/
import Derived.Test.YthookkmgmholcaaGreatDoorQB9
namespace Go.Proofs.YthookkmgmholcaaGreatDoor
open Go.RowKit Go.Maps Go.WideMaps

theorem FRange.cnt_le {P : Program} {k : TypeId} {w : World} {b r n cnt : Nat} {f : Value → Option Value} {lf : Value → Bool} (h : FRange P w k b r n f lf cnt) : cnt ≤ n := by
  obtain ⟨D, left, ⟨es, clock, since, seen, c0, hb, hF, hs, hD, hr, hold, hc, h3⟩, h2⟩ := h
  rw [← hc]
  unfold leftOf
  exact Nat.le_trans (Array.size_filter_le ..) hs

theorem FMap.keyed {P : Program} {k : TypeId} {w : World} {b n : Nat} {f : Value → Option Value} (h : FMap P w k b n f) {key : Value} (hk : f key ≠ none) : ∃ kl, keyOf P k key = some kl := by
  obtain ⟨D, _, hD⟩ := h; exact hD.key key hk

/-- the rows that a range has copied: lf says which keys are still to come -/
structure CRows (w : World) (base : Nat) (lf : Value → Bool) (sv sv2 : Int → Option Value) (sp : Int → List Int) : Prop where
  non : ∀ a, sv2 a = Option.none → sv a = Option.none ∨ lf (vI a) = true
  own : ∀ a v, sv2 a = some v → w.ownsInts base 3 .i64 v (sp a)
  dis : ∀ a a' v v', a ≠ a' → sv2 a = some v → sv2 a' = some v' → v.ownBlock = Option.none ∨ v.ownBlock ≠ v'.ownBlock

theorem CRows.start {w : World} {base : Nat} {lf : Value → Bool} {sv : Int → Option Value} {sp : Int → List Int} (h : ∀ a, sv a ≠ none → lf (vI a) = true) : CRows w base lf sv (fun _ => none) sp :=
  ⟨fun a _ => (Classical.em (sv a = none)).imp id (h a), fun _ _ e => (by cases e), fun _ _ _ _ _ e => (by cases e)⟩

theorem CRows.lt {w : World} {base : Nat} {lf : Value → Bool} {sv sv2 : Int → Option Value} {sp : Int → List Int} (h : CRows w base lf sv sv2 sp) {a : Int} {v : Value} {g : Nat} (hv : sv2 a = some v) (hg : v.ownBlock = some g) : base ≤ g ∧ g < w.heap.size :=
  (h.own a v hv).1.lt g hg

theorem CRows.same {w w' : World} {base : Nat} {lf : Value → Bool} {sv sv2 : Int → Option Value} {sp : Int → List Int} (h : CRows w base lf sv sv2 sp) (hb : ∀ g, base ≤ g → g < w.heap.size → w'.heap[g]? = w.heap[g]?) : CRows w' base lf sv sv2 sp :=
  ⟨h.non, fun a v hv => ⟨ownsRow_same (h.own a v hv).1 fun g hg => hb g (h.lt hv hg).1 (h.lt hv hg).2, (h.own a v hv).2⟩, h.dis⟩

theorem CRows.step {w : World} {base low : Nat} {lf lf' : Value → Bool} {sv sv2 : Int → Option Value} {sp : Int → List Int} {a : Int} {v : Value} (h : CRows w base lf sv sv2 sp) (hlow : ∀ a' v' g, sv2 a' = some v' → v'.ownBlock = some g → g < low) (hbl : base ≤ low)
    (hv : w.ownsInts low 3 .i64 v (sp a)) (hl2 : ∀ y, y ≠ vI a → lf' y = lf y) : CRows w base lf' sv (upI sv2 a (some v)) sp := by
  refine ⟨fun x hx => ?_, fun x u hx => ?_, fun x y u t hne hx hy => ?_⟩
  · unfold upI at hx
    split at hx
    · cases hx
    · rename_i hxa
      exact (h.non x hx).imp id fun e => by rw [hl2 _ (fun e2 => hxa (vI_inj.1 e2))]; exact e
  · unfold upI at hx
    split at hx
    · rename_i hxa
      cases hx; subst hxa
      exact ⟨ownsRow_down hbl hv.1, hv.2⟩
    · exact h.own x u hx
  · unfold upI at hx hy
    split at hx
    · rename_i hxa
      cases hx
      split at hy
      · rename_i hya; exact absurd (hxa.trans hya.symm) hne
      · cases e : v.ownBlock with
        | none => exact .inl rfl
        | some g =>
          right; intro e2
          have h1 := (hv.1.lt g e).1
          have h2 := hlow y t g hy e2.symm
          omega
    · split at hy
      · rename_i hya
        cases hy
        cases e : u.ownBlock with
        | none => exact .inl rfl
        | some g =>
          right; intro e2
          have h1 := (hv.1.lt g e2.symm).1
          have h2 := hlow x u g hx e
          omega
      · exact h.dis x y u t hne hx hy

theorem CRows.down {w : World} {base base' : Nat} {lf : Value → Bool} {sv sv2 : Int → Option Value} {sp : Int → List Int} (h : CRows w base lf sv sv2 sp) (hb : base' ≤ base) : CRows w base' lf sv sv2 sp :=
  ⟨h.non, fun a v hv => ⟨ownsRow_down hb (h.own a v hv).1, (h.own a v hv).2⟩, h.dis⟩

/-- what stands ahead of the range: the new mesh, without spokes -/
structure Head (w w1 : World) (mb ba bs bf n : Nat) (pv : Value) (M : MeshM) : Prop where
  c0 : w1.cell? ⟨mb, 0, none⟩ = some pv
  c1 : w1.cell? ⟨mb, 1, none⟩ = some (.map (some ba))
  c2 : w1.cell? ⟨mb, 2, none⟩ = some (.map (some bs))
  c3 : w1.cell? ⟨mb, 3, none⟩ = some (.int .i64 M.cnt)
  c4 : w1.cell? ⟨mb, 4, none⟩ = some (.map (some bf))
  fz : ∀ i, w1.frozen? ⟨mb, i, none⟩ = false
  pts : w1.ownsRow w.heap.size 25 2 pv M.P.length (cellsP M.P)
  apm : FMap Tryz.prog w1 94 ba n (edgeV M.ap)
  fxm : FMap Tryz.prog w1 94 bf n (edgeV M.fx)
  spm : FMap Tryz.prog w1 3 bs 0 (intV fun _ => none)
  nab : ba ≠ bs
  naf : ba ≠ bf
  nsf : bs ≠ bf
  npm : pv.ownBlock ≠ some mb
  nps : pv.ownBlock ≠ some bs
  nmb : mb ≠ bs
  lo : w.heap.size ≤ mb ∧ w.heap.size ≤ ba ∧ w.heap.size ≤ bs ∧ w.heap.size ≤ bf
  hi : mb < w1.heap.size
  bel : Below w.heap.size w w1

/-- the new mesh behind the range -/
theorem Head.done {w w1 w2 : World} {mb ba bs bf n n2 : Nat} {pv : Value} {M : MeshM} {sv sv2 : Int → Option Value} {lf : Value → Bool} (h : Head w w1 mb ba bs bf n pv M) (hst : ∀ i, i < w1.heap.size → i ≠ bs → w2.heap[i]? = w1.heap[i]?) (hsz : w1.heap.size ≤ w2.heap.size) (hn2 : n2 ≤ n)
    (hf : FMap Tryz.prog w2 3 bs n2 (intV sv2)) (hr : CRows w2 w1.heap.size lf sv sv2 M.sp) (hlf : ∀ k, lf k = false) (hsp : ∀ a, sv a = none → M.sp a = []) (hspl : ∀ a, (M.sp a).length ≤ n) (hcb : -(n : Int) ≤ M.cnt ∧ M.cnt ≤ n) :
    MeshAt w2 mb n M (fun i => w.heap.size ≤ i ∧ i < w2.heap.size) := by
  have hs := h.bel.size
  have hc : ∀ i, w2.cell? ⟨mb, i, none⟩ = w1.cell? ⟨mb, i, none⟩ := fun i => World.cell?_of_block (hst mb h.hi h.nmb)
  have hla := h.apm.lt
  have hlf' := h.fxm.lt
  have hlb := h.spm.lt
  have hlo := h.lo
  have hhi := h.hi
  have hpv : ∀ g, pv.ownBlock = some g → w.heap.size ≤ g ∧ g < w1.heap.size := fun g hg => h.pts.lt g hg
  exact ⟨ba, bs, bf, pv, sv2, (hc 0).trans h.c0, (hc 1).trans h.c1, (hc 2).trans h.c2, (hc 3).trans h.c3, (hc 4).trans h.c4, fun i => (World.frozen?_of_block (hst mb h.hi h.nmb)).trans (h.fz i),
    ownsRow_down (Nat.zero_le _) (ownsRow_same h.pts fun g hg => hst g (hpv g hg).2 (fun e => h.nps (by rw [hg, e]))),
    h.apm.same (hst ba hla h.nab), hf.mono hn2, h.fxm.same (hst bf hlf' (fun e => h.nsf e.symm)),
    ⟨fun a ha => hsp a ((hr.non a ha).resolve_right (by rw [hlf]; simp)), fun a v hv => ⟨ownsRow_down (Nat.zero_le _) (hr.own a v hv).1, (hr.own a v hv).2⟩, hr.dis, fun a v g hv hg => ⟨⟨by have := (hr.lt hv hg).1; omega, (hr.lt hv hg).2⟩, fun e => by
      have h1 := (hr.lt hv hg).1
      rcases e with e | e
      · omega
      · have := (hpv g e).2; omega⟩⟩,
    h.nab, h.naf, h.nsf, h.npm, ⟨hlo.1, by omega⟩, ⟨hlo.2.1, by omega⟩, ⟨hlo.2.2.1, by omega⟩, ⟨hlo.2.2.2, by omega⟩, fun g hg => ⟨(hpv g hg).1, by have := (hpv g hg).2; omega⟩, fun g hg => hg.2, hspl, hcb⟩

/-- one mesh stays while another one turns -/
theorem MB.apart {w0 w w' : World} {mb n : Nat} {M : MeshM} {F G : Nat → Prop} (h : MB w0 w mb n M F) (hs : Stay G w w') (hk : Below w0.heap.size w0 w') (hd : ∀ i, F i → ¬G i) : MB w0 w' mb n M F :=
  ⟨h.at_.same hs.size fun g hg => hs.block g (h.at_.flt g hg) (hd g hg), h.new, hk⟩

end Go.Proofs.YthookkmgmholcaaGreatDoor
