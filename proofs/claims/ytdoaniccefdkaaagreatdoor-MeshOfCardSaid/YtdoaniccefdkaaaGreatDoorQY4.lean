/- Equal lists of segments; a mark by the document. -/
import Derived.Test.YtdoaniccefdkaaaGreatDoorQMC
import Derived.Test.YtdoaniccefdkaaaGreatDoorQY3
set_option linter.all false
namespace Go.Proofs.YtdoaniccefdkaaaGreatDoor
open Go.RowKit Tvf Go.Maps Go.WideMaps

theorem segFields : (Tryz.prog.fieldsOf 141).toList.map (fun f => (f.type, f.offset)) = [(3, 0), (3, 1), (3, 2)] := by kernel_rfl
theorem segHeld : Tryz.prog.stoodInHeld 141 = false := by kernel_rfl
theorem segStruct : Tryz.prog.underlying 141 = some (.struct (Tryz.prog.fieldsOf 141)) := by kernel_rfl
theorem neqSeg (x y z : Int) (w : World) : (binOp .neq 141 (.agg #[.int .i64 x, .int .i64 y, .int .i64 z]) (.agg #[.int .i64 x, .int .i64 y, .int .i64 z])).run Tryz.prog w = .ok (.bool false) w := by
  rw [run_neq_struct, show (10000 : Nat) = 9999 + 1 from rfl, run_equalIn_struct w 9999 _ _ _ segStruct segHeld, eqFields_all]
  · rfl
  · intro f hf
    have hm : (f.type, f.offset) ∈ [((3 : TypeId), (0 : Nat)), (3, 1), (3, 2)] := by
      rw [← segFields]; exact List.mem_map.2 ⟨f, hf, rfl⟩
    simp only [List.mem_cons, List.not_mem_nil, or_false, Prod.mk.injEq] at hm
    rcases hm with ⟨h1, h2⟩ | ⟨h1, h2⟩ | ⟨h1, h2⟩
    · rw [h1, h2]; exact ⟨_, part3_0 x y z, fun w => (run_item9 x x w).trans (by simp)⟩
    · rw [h1, h2]; exact ⟨_, part3_1 x y z, fun w => (run_item9 y y w).trans (by simp)⟩
    · rw [h1, h2]; exact ⟨_, part3_2 x y z, fun w => (run_item9 z z w).trans (by simp)⟩

theorem KCells.seg {w : World} {ad : Option Addr} {l : List Seg3} (h : KCells encS w ad l) {k : Nat} (hk : k < l.length) : ∃ g, ad = some ⟨g, 0, none⟩ ∧ g < w.heap.size ∧
    w.cell? ⟨g, k * 3, none⟩ = some (.int .i64 (l.getD k (0, 0, 0)).1) ∧ w.cell? ⟨g, k * 3 + 1, none⟩ = some (.int .i64 (l.getD k (0, 0, 0)).2.1) ∧ w.cell? ⟨g, k * 3 + 2, none⟩ = some (.int .i64 (l.getD k (0, 0, 0)).2.2) := by
  obtain ⟨g, rfl, hg, hc⟩ := h (by omega)
  have e : l.getD k (0, 0, 0) = l[k] := by rw [List.getD_eq_getElem?_getD, List.getElem?_eq_getElem hk]; rfl
  have a := cellsK_at encS_len l k hk
  refine ⟨g, rfl, hg, hc _ _ ?_, hc _ _ ?_, hc _ _ ?_⟩
  · rw [e]; have := a 0 (by omega); rw [Nat.add_zero] at this; exact this
  · rw [e]; exact a 1 (by omega)
  · rw [e]; exact a 2 (by omega)

set_option maxRecDepth 100000 in
set_option maxHeartbeats 1000000 in
theorem sameSegs_walk (l : List Seg3) (ad bd : Option Addr) (ca cb : Nat) (w : World) (ha : KCells encS w ad l) (hb : KCells encS w bd l) (hl : l.length ≤ 1000000000000) :
    Calls Tryz.prog 81 #[.slice ad l.length ca, .slice bd l.length cb] w fun r w' => r = .returned (.bool true) ∧ Below w.heap.size w w' := by
  have HA := Lib.hid ha
  have HB := Lib.hid hb
  clear ha hb
  go_enter Tryz.func81, Tryz.ntmps81
  go_wp2
  go_loopw [5] (fun s5 wr => ∃ k : Nat, k ≤ l.length ∧ s5 = .int .i64 k ∧ Hid (Below w.heap.size w wr)) (fun i _ => l.length - (intOf i).toNat)
  case atStart => exact ⟨0, Nat.zero_le _, rfl, Below.refl _ _⟩
  case round =>
    obtain ⟨k, hk, rfl, HBW⟩ := hrel
    by_cases hlt : k < l.length
    · obtain ⟨g, rfl, hg, a0, a1, a2⟩ := (HA.out.below HBW.out).seg hlt
      obtain ⟨h, rfl, hh, b0, b1, b2⟩ := (HB.out.below HBW.out).seg hlt
      generalize l.getD k (0, 0, 0) = t at *
      obtain ⟨x, y, z⟩ := t
      dsimp only at a0 a1 a2 b0 b1 b2
      have hq := neqSeg x y z
      go_wp2
      go_region_held3 (fun w' => w' = wr.drew) (first | rfl | assumption) (fail)
      go_wp2
      go_roundw
      case rel => exact ⟨k + 1, by omega, (by first | rfl | rw [wrapS (by omega)]), HBW.out.drew⟩
      case measure => first | (simp [intOf]; omega) | (rw [wrapS (by omega)]; simp [intOf]; omega)
    · have e : k = l.length := by omega
      subst e
      clear hlt hk
      go_wp2
      go_ret
      exact ⟨rfl, HBW.out⟩

/-- the mark of a pair in the document's list -/
def markL (S : List Seg3) (u t : Int) : Option Int := (S.find? fun s => decide (s.1 = u) && decide (s.2.1 = t)).map fun s => s.2.2
theorem markL_none {S : List Seg3} {u t : Int} (h : ∀ j, j < S.length → ¬((S.getD j (0, 0, 0)).1 = u ∧ (S.getD j (0, 0, 0)).2.1 = t)) : markL S u t = none := by
  unfold markL
  rw [Option.map_eq_none_iff, List.find?_eq_none]
  intro s hs
  obtain ⟨j, hj, rfl⟩ := List.getElem_of_mem hs
  have := h j hj
  rw [List.getD_eq_getElem?_getD, List.getElem?_eq_getElem hj] at this
  simpa using this
theorem markL_at {S : List Seg3} {u t : Int} {i : Nat} (hi : i < S.length) (h : ∀ j, j < i → ¬((S.getD j (0, 0, 0)).1 = u ∧ (S.getD j (0, 0, 0)).2.1 = t)) (h1 : (S.getD i (0, 0, 0)).1 = u) (h2 : (S.getD i (0, 0, 0)).2.1 = t) : markL S u t = some (S.getD i (0, 0, 0)).2.2 := by
  have e : S = S.take i ++ S.getD i (0, 0, 0) :: S.drop (i + 1) := by
    rw [List.getD_eq_getElem?_getD, List.getElem?_eq_getElem hi]
    simp
  have h3 : markL (S.take i) u t = none := markL_none (fun j hj => by
    rw [List.length_take] at hj
    have := h j (by omega)
    rwa [List.getD_eq_getElem?_getD, List.getElem?_take, if_pos (by omega), ← List.getD_eq_getElem?_getD])
  clear h hi
  generalize S.getD i (0, 0, 0) = s at *
  generalize S.take i = A at *
  generalize S.drop (i + 1) = D at *
  subst e
  unfold markL at h3 ⊢
  rw [Option.map_eq_none_iff] at h3
  rw [List.find?_append, h3, List.find?_cons]
  simp [h1, h2]
theorem FixT.mark {fx : Int → Int → Option Int} {S : List Seg3} (h : FixT fx S) (u t : Int) : markL S u t = fx u t := by
  unfold markL
  cases e : S.find? (fun s => decide (s.1 = u) && decide (s.2.1 = t)) with
  | none =>
    rw [List.find?_eq_none] at e
    cases e2 : fx u t with
    | none => rfl
    | some c => exact absurd ((h.mem (u, t, c)).2 e2) (fun hm => by have := e _ hm; simp at this)
  | some s =>
    have h1 := List.find?_some e
    have h2 := (h.mem s).1 (List.mem_of_find?_eq_some e)
    simp only [Bool.and_eq_true, decide_eq_true_eq] at h1
    rw [h1.1, h1.2] at h2
    exact h2.symm

end Go.Proofs.YtdoaniccefdkaaaGreatDoor
