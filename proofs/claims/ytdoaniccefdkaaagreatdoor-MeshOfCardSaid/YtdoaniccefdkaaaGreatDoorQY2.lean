/- mesh.sorted at segments. -/
import Derived.Test.YtdoaniccefdkaaaGreatDoorZN
import Derived.Test.YtdoaniccefdkaaaGreatDoorQY1
import Derived.Test.YtdoaniccefdkaaaGreatDoorZU
set_option linter.all false
namespace Go.Proofs.YtdoaniccefdkaaaGreatDoor
open Go.RowKit Go.Maps Go.WideMaps Go.Sort

def ltG (x y : Seg3) : Prop := ltP (x.1, x.2.1) (y.1, y.2.1)
def cmpG (x y : Seg3) : Int := cmpT (x.1, x.2.1, 0) (y.1, y.2.1, 0)
theorem encS_len (x : Seg3) : (encS x).length = 3 := rfl
theorem ltOf_cmpG (x y : Seg3) : ltOf cmpG x y = true ↔ ltG x y := by
  have := ltOf_cmpT (x.1, x.2.1, 0) (y.1, y.2.1, 0)
  have e : ltOf cmpG x y = ltOf cmpT (x.1, x.2.1, 0) (y.1, y.2.1, 0) := rfl
  rw [e, this]
  unfold ltT ltG ltP
  dsimp only
  omega
theorem ltOf_cmpG' (x y : Seg3) : ltOf cmpG x y = false ↔ ¬ltG x y := by
  rw [← ltOf_cmpG]; simp
theorem swoG : SWO (ltOf cmpG) where
  irrefl x := (ltOf_cmpG' x x).2 (ltP_irr _)
  trans x y z h1 h2 := (ltOf_cmpG x z).2 (ltP_trans _ _ _ ((ltOf_cmpG x y).1 h1) ((ltOf_cmpG y z).1 h2))
  ntrans x y z h1 h2 := by
    rw [ltOf_cmpG'] at *
    unfold ltG ltP at *
    dsimp only at *
    omega

theorem enters_segCmp : ∀ args w, (callFunc 183 args).run Tryz.prog w = .ok (.enter 183 args) w := enters_of Tryz.func183 (by kernel_rfl) rfl

theorem sortFuncSeg {base : Nat} (l : List Seg3) (v : Value) (kb : Nat) (w : World) (h : w.ownsRow base 141 3 v l.length (cellsK encS l)) (hk : w.cell? ⟨kb, 0, none⟩ = some (.func (.func 144) #[] #[])) (hne : v.ownBlock ≠ some kb) (hl : l.length ≤ 4611686018427387900) :
    Calls Tryz.prog 182 #[v, .func (.func 183) #[] #[.pointer (some ⟨kb, 0, none⟩)]] w fun r w' =>
      r = .returned (.tuple #[]) ∧ ∃ l' : List Seg3, l'.Perm l ∧ l'.Pairwise (fun x y => ¬ltG y x) ∧ w'.ownsRow base 141 3 v l.length (cellsK encS l') ∧ w.grownBy w' v.ownBlock := by
  rcases h.2 with ⟨rfl, h0⟩ | ⟨g, cap, cur, rfl, hb, hh, hn, hm, hs, ht⟩
  · have hnil : l = [] := List.length_eq_zero_iff.1 h0
    subst hnil
    have hc := AnyF.slices_SortFunc_none (P := Tryz.prog) Tryz.sortSeg none 0 (.func (.func 183) #[] #[.pointer (some ⟨kb, 0, none⟩)]) w
    change Calls Tryz.prog 182 _ _ _ at hc
    refine hc.mono ?_
    rintro r w' ⟨rfl, rfl⟩
    exact ⟨rfl, [], List.Perm.refl _, List.Pairwise.nil, h, ⟨rfl, rfl, rfl, Nat.le_refl _, fun _ _ _ => rfl⟩⟩
  · have hkb : kb ≠ g := fun e => hne (by rw [e]; rfl)
    have hkl := World.block_lt_of_cell? _ _ hk
    have hgl : g < w.heap.size := (Array.getElem?_eq_some_iff.1 hh).1
    have hcmp : CmpLays Tryz.prog 183 #[.pointer (some ⟨kb, 0, none⟩)] encS 3 cmpG g 0 l.toArray.size w := by
      intro m os dk _ x y
      refine (segCmp_walk kb x y _ ?_).mono ?_
      · unfold sortWorldK
        rw [cell?_grow _ _ _ (by show kb < (putRowK _ _ _ _ _ _).heap.size; rw [size_putRowK]; exact hkl), cell?_putRowK_other _ _ _ _ _ _ _ hkb]
        exact hk
      · rintro r w' ⟨he, q, os', hw⟩
        exact ⟨he, q, os', hw⟩
    have hcon := AnyQ.slices_SortFunc (P := Tryz.prog) Tryz.sortSeg 3 Tryz.isAgg141 Tryz.sizeOf141 encS encS_len encS_one cmpG swoG 183 #[.pointer (some ⟨kb, 0, none⟩)] g 0 cap l.toArray w enters_segCmp hcmp (owns_holdsK encS_len h) hgl (by rw [List.size_toArray]; omega)
    change Calls Tryz.prog 182 _ _ _ at hcon
    rw [List.size_toArray] at hcon
    refine hcon.mono ?_
    rintro r w' ⟨rfl, d, n, os, hp, hsd, rfl⟩
    have hds : d.size = l.length := by have := hp.1; simpa using this
    obtain ⟨o1, o2⟩ := sort_back encS_len h d n os hds
    refine ⟨rfl, d.toList, permIn_list hp, ?_, o1, o2⟩
    refine List.Pairwise.imp ?_ (sortedIn_list hds hsd)
    intro x y hxy
    exact fun e => hxy ((ltOf_cmpG y x).2 e)

set_option maxRecDepth 100000 in
set_option maxHeartbeats 1000000 in
theorem sortedSeg_walk {base : Nat} (l : List Seg3) (v : Value) (w : World) (h : w.ownsRow base 141 3 v l.length (cellsK encS l)) (hl : l.length ≤ 4611686018427387900) :
    Calls Tryz.prog 143 #[v, .func (.func 144) #[] #[]] w fun r w' =>
      r = .returned v ∧ ∃ l' : List Seg3, l'.Perm l ∧ l'.Pairwise (fun x y => ¬ltG y x) ∧ w'.ownsRow base 141 3 v l.length (cellsK encS l') ∧ w.grownBy w' v.ownBlock := by
  have hc := sortFuncSeg l v w.heap.size (w.alloc (.cells #[.func (.func 144) #[] #[]] 195)) (h.alloc _) (by rw [World.cell?_alloc_at _ _ _ _ rfl]; rfl) (fun e => by have := (h.lt _ e).2; omega) hl
  have HC := Lib.hid hc
  have HS : Hid (∀ w', (w.alloc (.cells #[.func (.func 144) #[] #[]] 195)).grownBy w' v.ownBlock → w.grownBy w' v.ownBlock) := fun w' hg =>
    ⟨hg.os, hg.tape, hg.output, Nat.le_trans (by simp) hg.size, fun i hi hne => (hg.block i (by simp; omega) hne).trans (((Below.refl _ w).alloc (Nat.le_refl _) _).block i hi)⟩
  clear hc h
  go_enter Tryz.func143, Tryz.ntmps143
  go_wp2_with (go_at_call 182; refine HC.out.mono ?_; rintro r w1 ⟨rfl, l', h1, h2, h3, h4⟩)
  go_ret
  exact ⟨rfl, l', h1, h2, h3, HS.out _ h4⟩

end Go.Proofs.YtdoaniccefdkaaaGreatDoor
