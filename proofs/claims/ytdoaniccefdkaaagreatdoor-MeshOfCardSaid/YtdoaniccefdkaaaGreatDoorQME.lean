/- trivetlaw15.stands: what it stands on. -/
import Derived.Test.YtdoaniccefdkaaaGreatDoorQMD
import Derived.Test.YtdoaniccefdkaaaGreatDoorZc
import Derived.Test.YtdoaniccefdkaaaGreatDoorZa
import Derived.Test.YtdoaniccefdkaaaGreatDoorQY5
import Derived.Test.YtdoaniccefdkaaaGreatDoorZe
set_option linter.all false
namespace Go.Proofs.YtdoaniccefdkaaaGreatDoor
open Go.RowKit Tvf Go.Maps Go.WideMaps

/-- points in a row that may be written to -/
def FRow (w : World) (g : Nat) (L : List Pt) : Prop := g < w.heap.size ∧ ∀ i, i < L.length →
  w.cell? ⟨g, i * 2, none⟩ = some (.float .f64 (L.getD i (0, 0)).1) ∧ w.cell? ⟨g, i * 2 + 1, none⟩ = some (.float .f64 (L.getD i (0, 0)).2) ∧ w.frozen? ⟨g, i * 2, none⟩ = false
theorem FRow.below {w w' : World} {g : Nat} {L : List Pt} (h : FRow w g L) (hb : Below w.heap.size w w') : FRow w' g L :=
  ⟨Nat.lt_of_lt_of_le h.1 hb.size, fun i hi => by
    obtain ⟨h1, h2, h3⟩ := h.2 i hi
    exact ⟨(hb.cell (p := ⟨g, i * 2, none⟩) h.1).trans h1, (hb.cell (p := ⟨g, i * 2 + 1, none⟩) h.1).trans h2, (hb.frozen (p := ⟨g, i * 2, none⟩) h.1).trans h3⟩⟩
/-- those from i on, the others written over -/
def FTail (w : World) (g : Nat) (L : List Pt) (i : Nat) : Prop := g < w.heap.size ∧ ∀ j, i ≤ j → j < L.length →
  w.cell? ⟨g, j * 2, none⟩ = some (.float .f64 (L.getD j (0, 0)).1) ∧ w.cell? ⟨g, j * 2 + 1, none⟩ = some (.float .f64 (L.getD j (0, 0)).2) ∧ w.frozen? ⟨g, j * 2, none⟩ = false
theorem FTail.below {w w' : World} {g i : Nat} {L : List Pt} (h : FTail w g L i) (hb : Below w.heap.size w w') : FTail w' g L i :=
  ⟨Nat.lt_of_lt_of_le h.1 hb.size, fun j hi hj => by
    obtain ⟨h1, h2, h3⟩ := h.2 j hi hj
    exact ⟨(hb.cell (p := ⟨g, j * 2, none⟩) h.1).trans h1, (hb.cell (p := ⟨g, j * 2 + 1, none⟩) h.1).trans h2, (hb.frozen (p := ⟨g, j * 2, none⟩) h.1).trans h3⟩⟩
theorem FTail.put {w : World} {g i : Nat} {L : List Pt} (h : FTail w g L i) (v : Value) : FTail (w.setCell ⟨g, i * 2, none⟩ v) g L (i + 1) := by
  refine ⟨by simpa [World.setCell] using h.1, fun j hi hj => ?_⟩
  obtain ⟨h1, h2, h3⟩ := h.2 j (by omega) hj
  have ne : ∀ {a b : Nat}, a ≠ b → (⟨g, a, none⟩ : Addr) ≠ ⟨g, b, none⟩ := fun h e => h (by injection e)
  refine ⟨?_, ?_, ?_⟩
  · rw [World.cell?_setCell_other _ _ _ _ (ne (by omega))]; exact h1
  · rw [World.cell?_setCell_other _ _ _ _ (ne (by omega))]; exact h2
  · rw [World.frozen?_setCell]; exact h3

theorem owns_frow {w : World} {base : Nat} {v : Value} {l : List Pt} (h : w.ownsRow base 52 2 v l.length (cellsP l)) : ∃ ad cap, v = .slice ad l.length cap ∧ (0 < l.length → ∃ g, ad = some ⟨g, 0, none⟩ ∧ base ≤ g ∧ FTail w g l 0) := by
  rcases h.2 with ⟨h1, h2⟩ | ⟨g, cap, cur, h1, h2, h3, h4, h5, h6, h7⟩
  · exact ⟨none, 0, by rw [h2]; exact h1, fun hl => absurd h2 (by omega)⟩
  · refine ⟨some ⟨g, 0, none⟩, cap, h1, fun _ => ⟨g, rfl, h2, (Array.getElem?_eq_some_iff.1 h3).1, fun i _ hi => ?_⟩⟩
    have hp := h
    rw [h1] at hp
    have := cellsP_at l i hi
    refine ⟨?_, ?_, hp.frozenAt _⟩
    · rw [hp.cellAt _ (by omega)]; simpa using this.1
    · rw [hp.cellAt _ (by omega)]; simpa using this.2

set_option maxRecDepth 100000 in
set_option maxHeartbeats 1000000 in
theorem points_own {w : World} {mb n : Nat} {M : MeshM} {F : Nat → Prop} (h : MeshAt w mb n M F) (hl : M.P.length ≤ 1048576) :
    Calls Tryz.prog 75 #[.pointer (some ⟨mb, 0, none⟩)] w fun r w' => ∃ ad cap, r = .returned (.slice ad M.P.length cap) ∧ Hid (0 < M.P.length → ∃ g, ad = some ⟨g, 0, none⟩ ∧ w.heap.size ≤ g ∧ FTail w' g M.P 0) ∧ Below w.heap.size w w' := by
  obtain ⟨ba, bs, bf, pv, sv, h⟩ := h
  obtain ⟨ad, cap, rfl, hp⟩ := h.ptcells
  have c0 := h.c0
  have HC := Lib.hid (clone_walk M.P ad cap hl w hp)
  clear h hp
  go_enter Tryz.func75, Tryz.ntmps75
  go_wp2_with (go_at_call 88; with_reducible refine HC.out.mono ?_; rintro r w2 ⟨v', rfl, hown2, hb2⟩)
  go_ret
  obtain ⟨ad2, cap2, rfl, hp2⟩ := owns_frow hown2
  exact ⟨ad2, cap2, rfl, hp2, hb2⟩

theorem spokes_k {w : World} {mb n : Nat} {M : MeshM} {F : Nat → Prop} (h : MeshAt w mb n M F) (hs : Sound M) (hl : M.P.length ≤ 1048576) (hn : n ≤ 1000000000) {a : Int} (ha : i64ok a) :
    Calls Tryz.prog 84 #[.pointer (some ⟨mb, 0, none⟩), .int .i64 a] w fun r w' => ∃ ad cap, r = .returned (.slice ad (spokesL M a).length cap) ∧ KCells encI w' ad (spokesL M a) ∧ Below w.heap.size w w' := by
  refine (spokes_walk h (fun a b c e => (hs.i64 hl e).2.2) hn ha).mono ?_
  rintro r w' ⟨v, rfl, ho, hb⟩
  have ho2 : w'.ownsRow w.heap.size 3 1 v (spokesL M a).length (cellsK encI (spokesL M a)) := by rw [cellsI]; exact ho.1
  obtain ⟨ad, cap, rfl, hc, _⟩ := owns_kcells ho2
  exact ⟨ad, cap, rfl, hc, hb⟩

theorem trisL_short15 (ap : Int → Int → Option Int) (n : Nat) : (trisL ap n).length ≤ n * n := by
  unfold trisL
  rw [List.length_map]
  exact Nat.le_trans (List.length_filter_le _ _) (Nat.le_of_eq (idxL_len n))
theorem sound_cnt15 {M : MeshM} (h : Sound M) : M.cnt = (trisL M.ap M.P.length).length := by
  have h1 := three_tris h.win h.rot
  have h2 := h.cnt
  omega
/-- a mesh, and the document's: they stand alike -/
structure St (w : World) (l : List Pt) (mb n : Nat) (M : MeshM) (F : Nat → Prop) (B xb : Nat) (ad : Option Addr) (cap : Nat) (T : List Tri3) (vT : Value) (S : List Seg3) (vS : Value) : Prop where
  m : MeshAt w mb n M F
  x : RMs w B xb l ad cap T vT S vS
  tw : Twin M T
  P : M.P = l
  fx : FixT M.fx S
  p64 : ∀ p, p ∈ l → pt64 p
  ok : ∀ p, p ∈ l → ptOK p = true
  hl : l.length ≤ 100
  ht : T.length ≤ 1000
  hs : S.length ≤ 1000
  hn : n ≤ 1000000000

section
variable {w : World} {l : List Pt} {mb n : Nat} {M : MeshM} {F : Nat → Prop} {B xb : Nat} {ad : Option Addr} {cap : Nat} {T : List Tri3} {vT : Value} {S : List Seg3} {vS : Value}
theorem St.below {w' : World} (h : St w l mb n M F B xb ad cap T vT S vS) (hb : Below w.heap.size w w') : St w' l mb n M F B xb ad cap T vT S vS :=
  ⟨h.m.below hb, h.x.below hb, h.tw, h.P, h.fx, h.p64, h.ok, h.hl, h.ht, h.hs, h.hn⟩
theorem St.PL (h : St w l mb n M F B xb ad cap T vT S vS) : M.P.length ≤ 1048576 := by have := h.hl; rw [h.P]; omega

theorem St.sorted (h : St w l mb n M F B xb ad cap T vT S vS) {g : Option Addr} {cp : Nat} (hv : vT = .slice g T.length cp) :
    Calls Tryz.prog 76 #[.slice g T.length cp] w fun r w' => ∃ ad cap, r = .returned (.slice ad (trisL M.ap M.P.length).length cap) ∧ KCells encT w' ad (trisL M.ap M.P.length) ∧ Below w.heap.size w w' := by
  subst hv
  have hc : TCell w g T := by
    intro i hi
    obtain ⟨b, hg, x0⟩ := h.x.tcell hi (k := 0) (by omega)
    obtain ⟨b1, hg1, x1⟩ := h.x.tcell hi (k := 1) (by omega)
    obtain ⟨b2, hg2, x2⟩ := h.x.tcell hi (k := 2) (by omega)
    rw [hg] at hg1 hg2
    cases hg1
    cases hg2
    refine ⟨b, 0, hg, World.block_lt_of_cell? _ _ x0, ?_⟩
    rw [Nat.zero_add]
    exact ⟨x0, x1, x2⟩
  have hT := h.ht
  refine (sorted15 (cap := cp) hc h.tw.ne h.tw.nodup (by omega)).mono ?_
  rintro r w' ⟨v, L, rfl, HR, HS⟩
  have e := Srt.all h.tw HS.out
  subst e
  obtain ⟨ad, cap, rfl, hk, _⟩ := owns_kcells HR.out.own
  exact ⟨ad, cap, rfl, hk, HR.out.low⟩
theorem St.edges (h : St w l mb n M F B xb ad cap T vT S vS) :
    Calls Tryz.prog 79 #[.pointer (some ⟨xb, 0, none⟩)] w fun r w' => ∃ ad cap, r = .returned (.slice ad (edgeL M.ap M.P.length).length cap) ∧ KCells encP w' ad (edgeL M.ap M.P.length) ∧ Below w.heap.size w w' := by
  have hT := h.ht
  refine (edges15 h.x (by omega)).mono ?_
  rintro r w' ⟨v, L, rfl, HR, HS⟩
  have e := h.tw.edges HS.out
  subst e
  obtain ⟨ad, cap, rfl, hk, _⟩ := owns_kcells HR.out.own
  exact ⟨ad, cap, rfl, hk, HR.out.low⟩
theorem St.border (h : St w l mb n M F B xb ad cap T vT S vS) :
    Calls Tryz.prog 80 #[.pointer (some ⟨xb, 0, none⟩)] w fun r w' => ∃ ad cap, r = .returned (.slice ad (bordL M.ap M.P.length).length cap) ∧ KCells encP w' ad (bordL M.ap M.P.length) ∧ Below w.heap.size w w' := by
  have hT := h.ht
  refine (border15 h.x (by omega)).mono ?_
  rintro r w' ⟨v, L, rfl, HR, HS⟩
  have e := h.tw.bord HS.out
  subst e
  obtain ⟨ad, cap, rfl, hk, _⟩ := owns_kcells HR.out.own
  exact ⟨ad, cap, rfl, hk, HR.out.low⟩
theorem St.el (h : St w l mb n M F B xb ad cap T vT S vS) : (edgeL M.ap M.P.length).length ≤ 10000 ∧ (bordL M.ap M.P.length).length ≤ 10000 ∧ (trisL M.ap M.P.length).length ≤ 10000 := by
  have h1 := edgeL_short M.ap M.P.length
  have h2 := bordL_short M.ap M.P.length
  have h3 := trisL_short15 M.ap M.P.length
  have h4 : M.P.length ≤ 100 := by rw [h.P]; exact h.hl
  have h5 : M.P.length * M.P.length ≤ 100 * 100 := Nat.mul_le_mul h4 h4
  omega
theorem St.spokes (h : St w l mb n M F B xb ad cap T vT S vS) (a : Int) :
    Calls Tryz.prog 85 #[.pointer (some ⟨xb, 0, none⟩), .int .i64 a] w fun r w' => ∃ ad cap, r = .returned (.slice ad (spokesL M a).length cap) ∧ KCells encI w' ad (spokesL M a) ∧ Below w.heap.size w w' := by
  have hT := h.ht
  have he := h.el.1
  have := spokes15_k h.x (by omega) (E := edgeL M.ap M.P.length) (fun L hL => h.tw.edges hL) (by omega) a
  rw [sp15_is h.tw.s] at this
  exact this
end

end Go.Proofs.YtdoaniccefdkaaaGreatDoor
