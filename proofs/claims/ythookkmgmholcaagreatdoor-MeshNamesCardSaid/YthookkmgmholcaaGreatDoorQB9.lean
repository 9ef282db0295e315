/- maps.Clone of a map of edges. -/
import Derived.Test.YthookkmgmholcaaGreatDoorQB8
import Derived.Test.YthookkmgmholcaaGreatDoorZC
import Derived.Shelf.SlMaps.Clone
namespace Go.Proofs.YthookkmgmholcaaGreatDoor
open Go.RowKit Go.Maps Go.WideMaps

theorem cloneMap_walk {b n : Nat} {f : Value → Option Value} {w : World} (h : FMap Tryz.prog w 94 b n f) :
    Calls Tryz.prog 91 #[.map (some b)] w fun e w' => e = .returned (.map (some w.heap.size)) ∧ FMap Tryz.prog w' 94 w.heap.size n f ∧ Below w.heap.size w w' := by
  obtain ⟨D, hown, hD⟩ := h
  have hc := AnyW.maps_Clone_owns (P := Tryz.prog) Tryz.cloneMap 94 tokR b n D w hown
  change Calls Tryz.prog 91 _ _ _ at hc
  refine hc.mono ?_
  rintro r w' ⟨rfl, h1, _, hb⟩
  exact ⟨rfl, ⟨D, h1, hD⟩, hb⟩

end Go.Proofs.YthookkmgmholcaaGreatDoor
