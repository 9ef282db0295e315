/- Part of the proof. No conditions. -/
import Derived.Test.YtdoaniccefdkaaaGreatDoorZM
import Derived.Test.YtdoaniccefdkaaaGreatDoorZU
import Derived.Deep.AppendLies

set_option linter.all false
/- trivetref15: has, Apex. -/
namespace Go.Proofs.YtdoaniccefdkaaaGreatDoor
open Go.RowKit Tvf Go.Maps Go.WideMaps

/-- a triangle's corners by their number -/
def tvT (t : Tri3) (k : Nat) : Int := if k = 0 then t.1 else if k = 1 then t.2.1 else t.2.2
end Go.Proofs.YtdoaniccefdkaaaGreatDoor

/- trivetref15.Make. -/
namespace Go.Proofs.YtdoaniccefdkaaaGreatDoor
open Go.RowKit Tvf Go.Maps Go.WideMaps

section
variable {w wr w2 w' : World} {B xb : Nat} {P : List Pt} {ad : Option Addr} {cap : Nat} {T T' : List Tri3} {vT v : Value} {S S' : List Seg3} {vS : Value}
end

end Go.Proofs.YtdoaniccefdkaaaGreatDoor

/- Edges, border edges, spokes by the document, plainly. -/
namespace Go.Proofs.YtdoaniccefdkaaaGreatDoor

/-- an edge of a triangle by its number, both ways -/
def edT (t : Tri3) (k : Nat) : Int × Int := (min (tvT t k) (tvT t ((k + 1) % 3)), max (tvT t k) (tvT t ((k + 1) % 3)))
def allK (f : Tri3 → Nat → Int × Int) (T : List Tri3) (i k : Nat) : List (Int × Int) := (T.take i).flatMap (fun t => (List.range 3).map (f t)) ++ (List.range k).map (f (T.getD i (0, 0, 0)))
def allT (f : Tri3 → Nat → Int × Int) (T : List Tri3) : List (Int × Int) := allK f T T.length 0
theorem mem_allT {f : Tri3 → Nat → Int × Int} {T : List Tri3} (x : Int × Int) : x ∈ allT f T ↔ ∃ t, t ∈ T ∧ ∃ k, k < 3 ∧ x = f t k := by
  unfold allT allK
  rw [List.take_length, List.range_zero, List.map_nil, List.append_nil, List.mem_flatMap]
  constructor
  · rintro ⟨t, ht, hx⟩
    obtain ⟨k, hk, rfl⟩ := List.mem_map.1 hx
    exact ⟨t, ht, k, List.mem_range.1 hk, rfl⟩
  · rintro ⟨t, ht, k, hk, rfl⟩
    exact ⟨t, ht, List.mem_map.2 ⟨k, List.mem_range.2 hk, rfl⟩⟩
theorem inT_at (t : Tri3) (x y : Int) : (∃ z, inT t x y z) ↔ ∃ k, k < 3 ∧ tvT t k = x ∧ tvT t ((k + 1) % 3) = y := by
  unfold inT
  constructor
  · rintro ⟨z, ⟨h1, h2, _⟩ | ⟨h1, h2, _⟩ | ⟨h1, h2, _⟩⟩
    · exact ⟨0, by omega, h1.symm, h2.symm⟩
    · exact ⟨1, by omega, h1.symm, h2.symm⟩
    · exact ⟨2, by omega, h1.symm, h2.symm⟩
  · rintro ⟨k, hk, h1, h2⟩
    have h4 : k = 0 ∨ k = 1 ∨ k = 2 := by omega
    rcases h4 with rfl | rfl | rfl
    · exact ⟨_, .inl ⟨h1.symm, h2.symm, rfl⟩⟩
    · exact ⟨_, .inr (.inl ⟨h1.symm, h2.symm, rfl⟩)⟩
    · exact ⟨_, .inr (.inr ⟨h1.symm, h2.symm, rfl⟩)⟩
theorem Twin.in_iff {M : MeshM} {T : List Tri3} (h : Twin M T) (x y : Int) : (M.ap x y).isSome = true ↔ ∃ t, t ∈ T ∧ ∃ k, k < 3 ∧ tvT t k = x ∧ tvT t ((k + 1) % 3) = y := by
  rw [Option.isSome_iff_exists]
  constructor
  · rintro ⟨z, hz⟩
    rw [h.ap, h.mem] at hz
    obtain ⟨t, ht, hi⟩ := hz
    exact ⟨t, ht, (inT_at t x y).1 ⟨z, hi⟩⟩
  · rintro ⟨t, ht, hk⟩
    obtain ⟨z, hz⟩ := (inT_at t x y).2 hk
    exact ⟨z, by rw [h.ap, h.mem]; exact ⟨t, ht, hz⟩⟩
theorem Twin.ne_at {M : MeshM} {T : List Tri3} (h : Twin M T) {t : Tri3} (ht : t ∈ T) {k : Nat} (hk : k < 3) : tvT t k ≠ tvT t ((k + 1) % 3) := by
  obtain ⟨h1, h2, h3⟩ := h.ne t ht
  have h4 : k = 0 ∨ k = 1 ∨ k = 2 := by omega
  rcases h4 with rfl | rfl | rfl
  · exact h1
  · exact h2
  · exact fun e => h3 e.symm
theorem PSrt.uniq {l S L : List (Int × Int)} (h : PSrt l l.length L) (hS : S.Pairwise ltP) (hm : ∀ x, x ∈ l ↔ x ∈ S) : L = S :=
  pw_unique ltP_irr ltP_trans _ _ h.1 hS (fun x => by rw [h.2.1, List.take_length, hm])
theorem Twin.edges {M : MeshM} {T : List Tri3} (h : Twin M T) {L : List (Int × Int)} (hL : PSrt (allT edT T) (allT edT T).length L) : L = edgeL M.ap M.P.length := by
  refine hL.uniq (edgeL_sorted _ _) (fun x => ?_)
  rw [mem_allT, mem_edgeL h.s.win]
  unfold edgeB inB
  rw [Bool.and_eq_true, decide_eq_true_eq, Bool.or_eq_true, h.in_iff, h.in_iff]
  dsimp only
  constructor
  · rintro ⟨t, ht, k, hk, rfl⟩
    have hn := h.ne_at ht hk
    unfold edT
    dsimp only
    rcases Int.lt_or_gt_of_ne hn with q | q
    · rw [Int.min_eq_left (by omega), Int.max_eq_right (by omega)]
      exact ⟨q, .inl ⟨t, ht, k, hk, rfl, rfl⟩⟩
    · rw [Int.min_eq_right (by omega), Int.max_eq_left (by omega)]
      exact ⟨q, .inr ⟨t, ht, k, hk, rfl, rfl⟩⟩
  · rintro ⟨hl, ⟨t, ht, k, hk, h1, h2⟩ | ⟨t, ht, k, hk, h1, h2⟩⟩
    · refine ⟨t, ht, k, hk, ?_⟩
      unfold edT
      rw [h1, h2, Int.min_eq_left (by omega), Int.max_eq_right (by omega)]
    · refine ⟨t, ht, k, hk, ?_⟩
      unfold edT
      rw [h1, h2, Int.min_eq_right (by omega), Int.max_eq_left (by omega)]
/-! ### spokes -/
end Go.Proofs.YtdoaniccefdkaaaGreatDoor
