/- trivetref15: Fixed. -/
import Derived.Test.YtdoaniccefdkaaaGreatDoorQY4
set_option linter.all false
namespace Go.Proofs.YtdoaniccefdkaaaGreatDoor
open Go.RowKit Tvf Go.Maps Go.WideMaps

set_option maxRecDepth 100000 in
set_option maxHeartbeats 4000000 in
theorem fixed15 {w : World} {B xb : Nat} {P : List Pt} {ad : Option Addr} {cap : Nat} {T : List Tri3} {vT : Value} {S : List Seg3} {vS : Value} (h : RMs w B xb P ad cap T vT S vS) (hS : S.length ≤ 1000000) (a b : Int) :
    Calls Tryz.prog 86 #[.pointer (some ⟨xb, 0, none⟩), .int .i64 a, .int .i64 b] w fun r w' => r = .returned (.tuple #[.int .i64 ((markL S (minI a b) (maxI a b)).getD 0), .bool (markL S (minI a b) (maxI a b)).isSome]) ∧ Below w.heap.size w w' := by
  have HSL := Lib.hid hS
  obtain ⟨g, cp, n, hv, hn⟩ : ∃ g cp n, vS = .slice g n cp ∧ n = S.length := by
    rcases h.seg.2 with ⟨rfl, h0⟩ | ⟨g, cp, cur, rfl, _⟩
    · exact ⟨none, 0, 0, rfl, h0.symm⟩
    · exact ⟨_, _, _, rfl, rfl⟩
  subst hv
  have HG : Hid (∀ i W, i < n → Below w.heap.size w W → ∃ b, g = some ⟨b, 0, none⟩ ∧ W.cell? ⟨b, i * 3, none⟩ = some (.int .i64 (S.getD i (0, 0, 0)).1) ∧ W.cell? ⟨b, i * 3 + 1, none⟩ = some (.int .i64 (S.getD i (0, 0, 0)).2.1) ∧ W.cell? ⟨b, i * 3 + 2, none⟩ = some (.int .i64 (S.getD i (0, 0, 0)).2.2)) := fun i W hi hb => by
    have ho := h.seg
    rcases ho.2 with ⟨_, h0⟩ | ⟨b, cp', cur, e, _⟩
    · omega
    · cases e
      obtain ⟨x0, x1, x2⟩ := seg_cells ho (i := i) (by omega)
      exact ⟨b, rfl, cell_keep x0 hb, cell_keep x1 hb, cell_keep x2 hb⟩
  have HX : Hid (∀ W, Below w.heap.size w W → W.cell? ⟨xb, 2, none⟩ = some (.slice g n cp)) := fun W hb => cell_keep h.cells.2.2 hb
  have HN := Lib.hid hn
  have c2 := HX.out w (Below.refl _ _)
  clear h hS hn
  rw [minI_min, maxI_max]
  generalize hu : min a b = u
  generalize ht : max a b = t
  have HAT : Hid (∀ i, i < n → (∀ j, j < i → ¬((S.getD j (0, 0, 0)).1 = u ∧ (S.getD j (0, 0, 0)).2.1 = t)) → (S.getD i (0, 0, 0)).1 = u → (S.getD i (0, 0, 0)).2.1 = t → markL S u t = some (S.getD i (0, 0, 0)).2.2) := fun i hi => markL_at (by have := HN.out; omega)
  have HNO : Hid ((∀ j, j < n → ¬((S.getD j (0, 0, 0)).1 = u ∧ (S.getD j (0, 0, 0)).2.1 = t)) → markL S u t = none) := fun h1 => markL_none (fun j hj => h1 j (by have := HN.out; omega))
  generalize markL S u t = RR at *
  go_enter Tryz.func86, Tryz.ntmps86
  go_wp2
  go_loopw [8] (fun s8 wr => ∃ i : Nat, i ≤ n ∧ s8 = .int .i64 i ∧ Hid (∀ j, j < i → ¬((S.getD j (0, 0, 0)).1 = u ∧ (S.getD j (0, 0, 0)).2.1 = t)) ∧ Hid (Below w.heap.size w wr)) (fun s8 _ => n - (intOf s8).toNat)
  case atStart => exact ⟨0, Nat.zero_le _, rfl, fun j hj => absurd hj (by omega), Below.refl _ _⟩
  case round =>
    clear c2
    obtain ⟨i, hin, rfl, HI, HR⟩ := hrel
    have c2 := HX.out _ HR.out
    by_cases hlt : i < n
    · obtain ⟨bb, rfl, x0, x1, x2⟩ := HG.out i _ hlt HR.out
      have hz : (i : Int) < (n : Int) := by omega
      have hi0 : (0 : Int) ≤ (i : Int) := by omega
      have hw1 : wrap64 ((i : Int) + 1) = (i : Int) + 1 := by have := HSL.out; have := HN.out; unfold wrap64; omega
      have HF2 := Lib.hid (HAT.out i hlt HI.out)
      have HN2 : Hid (¬((S.getD i (0, 0, 0)).1 = u ∧ (S.getD i (0, 0, 0)).2.1 = t) → ∀ j, j < i + 1 → ¬((S.getD j (0, 0, 0)).1 = u ∧ (S.getD j (0, 0, 0)).2.1 = t)) := fun h0 j hj => by
        rcases Nat.lt_or_ge j i with q | q
        · exact HI.out j q
        · rw [show j = i by omega]; exact h0
      generalize (S.getD i (0, 0, 0)).1 = s0 at x0 HF2 HN2
      generalize (S.getD i (0, 0, 0)).2.1 = s1 at x1 HF2 HN2
      generalize (S.getD i (0, 0, 0)).2.2 = s2 at x2 HF2
      by_cases e1 : s0 = u
      · by_cases e2 : s1 = t
        · have HRR := Lib.hid (HF2.out e1 e2)
          go_wp2
          first | go_ret2 | refine bodyPost_ret (by simp [results, Tryz.results86, go_sem]; try rfl) rfl ?_
          rw [HRR.out]
          exact ⟨rfl, HR.out⟩
        · have HR2 := Lib.hid (HN2.out (fun e => e2 e.2))
          subst e1
          go_wp2
          go_roundw
          case rel => exact ⟨i + 1, by omega, by (try rw [hw1]); rfl, HR2.out, HR.out⟩
          case measure => (try rw [hw1]); simp only [intOf]; omega
      · have HR2 := Lib.hid (HN2.out (fun e => e1 e.1))
        go_wp2
        go_roundw
        case rel => exact ⟨i + 1, by omega, by (try rw [hw1]); rfl, HR2.out, HR.out⟩
        case measure => (try rw [hw1]); simp only [intOf]; omega
    · have e : i = n := by omega
      subst e
      have hz : ¬(i : Int) < (i : Int) := by omega
      have HRR := Lib.hid (HNO.out HI.out)
      go_wp2
      first | go_ret2 | refine bodyPost_ret (by simp [results, Tryz.results86, go_sem]; try rfl) rfl ?_
      rw [HRR.out]
      exact ⟨rfl, HR.out⟩

end Go.Proofs.YtdoaniccefdkaaaGreatDoor
