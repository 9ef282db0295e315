/- Part of the proof. No conditions. -/
import Derived.Test.YtdoaniccefdkaaaGreatDoorZV
import Derived.Deep.CutBlock

set_option linter.all false
/- trivetref15.Loose. -/
namespace Go.Proofs.YtdoaniccefdkaaaGreatDoor
open Go.RowKit Tvf Go.Maps Go.WideMaps

theorem minI_min (a b : Int) : minI a b = min a b := by unfold minI; rw [Int.min_def]
theorem maxI_max (a b : Int) : maxI a b = max a b := by unfold maxI; rw [Int.max_def]
/-- a new row of segments beside what was there -/
structure SR (w wr : World) (v : Value) (L : List Seg3) : Prop where
  own : wr.ownsRow w.heap.size 141 3 v L.length (cellsK encS L)
  low : Below w.heap.size w wr
theorem SR.nil (w : World) : SR w w (.slice none 0 0) [] := ⟨World.ownsRow_nil _ _ _ _, Below.refl _ _⟩
theorem SR.grow {w wr wa w2 : World} {v v' : Value} {L L' : List Seg3} {n : Nat} (h : SR w wr v L) (ha : Below wr.heap.size wr wa) (hg : wa.grownBy w2 v.ownBlock) (hn : n = L'.length) (ho : w2.ownsRow w.heap.size 141 3 v' n (cellsK encS L')) : SR w w2 v' L' := by
  subst hn
  have hb : Below w.heap.size w wa := h.low.trans (ha.mono h.low.size)
  exact ⟨ho, hb.grown hg hb.size (fun k hk => (h.own.lt k hk).1)⟩
theorem SR.form {w wr : World} {v : Value} {L : List Seg3} (h : SR w wr v L) : ∃ g c, v = .slice g L.length c := by
  rcases h.own.2 with ⟨h0, h1⟩ | ⟨g, c, cur, h0, _⟩
  · exact ⟨none, 0, by rw [h1]; exact h0⟩
  · exact ⟨_, _, h0⟩

end Go.Proofs.YtdoaniccefdkaaaGreatDoor

/- trivetref15.Fix. -/
namespace Go.Proofs.YtdoaniccefdkaaaGreatDoor
open Go.RowKit Tvf Go.Maps Go.WideMaps

/-- does a mark come ahead of an edge's? -/
def ltS (u t : Int) (s : Seg3) : Bool := decide (s.1 < u) || (decide (s.1 = u) && decide (s.2.1 < t))
/-- a mark put in at its place -/
def PutS (L : List Seg3) (u t v : Int) (L' : List Seg3) : Prop := ∃ k, k ≤ L.length ∧ L' = L.take k ++ [(u, t, v)] ++ L.drop k ∧ (∀ j, j < k → ltS u t (L.getD j (0, 0, 0)) = true) ∧ (k < L.length → ltS u t (L.getD k (0, 0, 0)) = false)
theorem PutS.len {L L' : List Seg3} {u t v : Int} (h : PutS L u t v L') : L'.length = L.length + 1 := by
  obtain ⟨k, hk, rfl, _⟩ := h
  simp only [List.length_append, List.length_take, List.length_drop, List.length_cons, List.length_nil]
  omega

theorem below_q15 {B : Nat} {a w : World} (h : Below B a w) (n : Nat) : Below B a (w.drewN n) := ⟨h.os, h.tape, h.output, h.size, h.block⟩

end Go.Proofs.YtdoaniccefdkaaaGreatDoor
