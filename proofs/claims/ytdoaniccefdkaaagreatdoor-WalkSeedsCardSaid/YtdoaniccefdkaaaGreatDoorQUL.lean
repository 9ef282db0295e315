/- A law's arguments, opened: a point; four of them, five of them. -/
import Derived.Test.YtdoaniccefdkaaaGreatDoorZe
set_option linter.all false
namespace Go.Proofs.YtdoaniccefdkaaaGreatDoor
open Go.ChangeShapes Go.WideShapes Go.ChangeAt Go.RowKit Go.Deep

section
variable {H : Type} {enc : TypeId × Value → H} {P : Program} {w W : World} {base : Nat} {spare : Nat → Bool} {held : Bool}

theorem trodAll_four {t t' t'' u : TypeId} {args : Array Value} {ds : List (DataW H)} {ps : List MemPlace} (h : DataW.TrodAll enc P w base spare held [t, t', t'', u] args.toList ds ps) :
    ∃ v v' v'' x d d' d'' e p p' p'' q, args = #[v, v', v'', x] ∧ ds = [d, d', d'', e] ∧ ps = p ++ (p' ++ (p'' ++ q)) ∧ DataW.Trod enc P w base spare held t v d p ∧ DataW.Trod enc P w base spare held t' v' d' p' ∧ DataW.Trod enc P w base spare held t'' v'' d'' p'' ∧ DataW.Trod enc P w base spare held u x e q := by
  obtain ⟨v, vs, d, ds', p, q, hargs, rfl, rfl, hd, hrest⟩ := trodAll_cons h
  obtain ⟨v', vs', d', ds'', p', q', rfl, rfl, rfl, hd', hrest'⟩ := trodAll_cons hrest
  obtain ⟨v'', vs'', d'', ds3, p'', q'', rfl, rfl, rfl, hd'', hrest''⟩ := trodAll_cons hrest'
  obtain ⟨x, vs3, e, ds4, r, r', rfl, rfl, rfl, he, hrest3⟩ := trodAll_cons hrest''
  obtain ⟨rfl, rfl, rfl⟩ := trodAll_nil hrest3
  exact ⟨v, v', v'', x, d, d', d'', e, p, p', p'', r, by cases args; simp_all, rfl, by simp, hd, hd', hd'', he⟩
theorem trodAll_five {t t' t'' u u' : TypeId} {args : Array Value} {ds : List (DataW H)} {ps : List MemPlace} (h : DataW.TrodAll enc P w base spare held [t, t', t'', u, u'] args.toList ds ps) :
    ∃ v v' v'' x x' d d' d'' e e' p p' p'' q q', args = #[v, v', v'', x, x'] ∧ ds = [d, d', d'', e, e'] ∧ ps = p ++ (p' ++ (p'' ++ (q ++ q'))) ∧ DataW.Trod enc P w base spare held t v d p ∧ DataW.Trod enc P w base spare held t' v' d' p' ∧ DataW.Trod enc P w base spare held t'' v'' d'' p'' ∧ DataW.Trod enc P w base spare held u x e q ∧ DataW.Trod enc P w base spare held u' x' e' q' := by
  obtain ⟨v, vs, d, ds', p, q, hargs, rfl, rfl, hd, hrest⟩ := trodAll_cons h
  obtain ⟨v', vs', d', ds'', p', q', rfl, rfl, rfl, hd', hrest'⟩ := trodAll_cons hrest
  obtain ⟨v'', vs'', d'', ds3, p'', q'', rfl, rfl, rfl, hd'', hrest''⟩ := trodAll_cons hrest'
  obtain ⟨x, vs3, e, ds4, r, r', rfl, rfl, rfl, he, hrest3⟩ := trodAll_cons hrest''
  obtain ⟨x', vs4, e', ds5, s, s', rfl, rfl, rfl, he', hrest4⟩ := trodAll_cons hrest3
  obtain ⟨rfl, rfl, rfl⟩ := trodAll_nil hrest4
  exact ⟨v, v', v'', x, x', d, d', d'', e, e', p, p', p'', r, s, by cases args; simp_all, rfl, by simp, hd, hd', hd'', he, he'⟩
theorem trodAll_mk4 {t t' t'' u : TypeId} {v v' v'' x : Value} {d d' d'' e : DataW H} {p p' p'' q : List MemPlace} (h : DataW.Trod enc P w base spare held t v d p) (h' : DataW.Trod enc P w base spare held t' v' d' p')
    (h'' : DataW.Trod enc P w base spare held t'' v'' d'' p'') (h3 : DataW.Trod enc P w base spare held u x e q) : DataW.TrodAll enc P w base spare held [t, t', t'', u] [v, v', v'', x] [d, d', d'', e] (p ++ (p' ++ (p'' ++ q))) := ⟨p, p' ++ (p'' ++ q), h, trodAll_mk3 h' h'' h3, rfl⟩
theorem trodAll_mk5 {t t' t'' u u' : TypeId} {v v' v'' x x' : Value} {d d' d'' e e' : DataW H} {p p' p'' q q' : List MemPlace} (h : DataW.Trod enc P w base spare held t v d p) (h' : DataW.Trod enc P w base spare held t' v' d' p')
    (h'' : DataW.Trod enc P w base spare held t'' v'' d'' p'') (h3 : DataW.Trod enc P w base spare held u x e q) (h4 : DataW.Trod enc P w base spare held u' x' e' q') : DataW.TrodAll enc P w base spare held [t, t', t'', u, u'] [v, v', v'', x, x'] [d, d', d'', e, e'] (p ++ (p' ++ (p'' ++ (q ++ q')))) := ⟨p, p' ++ (p'' ++ (q ++ q')), h, trodAll_mk4 h' h'' h3 h4, rfl⟩

set_option maxRecDepth 100000 in
theorem open_point {v : Value} {d : DataW H} {ps : List MemPlace} {P2 : Reach} {b2 : Nat} (hv : Value.okWide Tryz.prog W P2 b2 52 v) (h : DataW.Trod enc Tryz.prog W base spare held 52 v d ps) :
    ∃ p : Pt, v = .agg #[.float .f64 p.1, .float .f64 p.2] ∧ pt64 p := by
  obtain ⟨cs, rfl, _⟩ := okWide_struct Tryz.underlying52 hv
  obtain ⟨fuel, hf⟩ := h
  obtain ⟨p, hp, hi⟩ := trod_pt hf
  refine ⟨p, ?_, hi⟩
  simp only [Value.cells] at hp
  congr 1
  exact Array.toList_inj.1 hp
theorem open_seed {fuel : Nat} {m : Int} {x : DataW H × List MemPlace} (h : DataW.trod enc Tryz.prog W base spare held fuel 83 (Value.int .u64 m).cells.toList = some x) : ∃ s : Nat, m = s ∧ s < 18446744073709551616 := by
  obtain ⟨a, ea, _, wa⟩ := DataW.trod_int Tryz.underlying83 h
  simp [Value.cells] at ea
  subst ea
  simp [Lit.wf, IntKind.min, IntKind.max, IntKind.bits, IntKind.signed] at wa
  exact ⟨m.toNat, by omega, by omega⟩
end

end Go.Proofs.YtdoaniccefdkaaaGreatDoor
