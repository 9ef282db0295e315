/- flip.settle's trace where no edge is turned; the traces of FlipNames. -/
import Derived.Test.YthookkmgmholcaaGreatDoorQHD
namespace Go.Proofs.YthookkmgmholcaaGreatDoor
open Go.RowKit Tvf

/-- in order: by the code, where what may be turned is out of order -/
def D0 : MeshM → Int → Int → Bool := fun M a b => !(shB M a b && mayB M a b)

theorem sRun_add (D : MeshM → Int → Int → Bool) (s : SS) (a : Nat) : ∀ b, sRun D s (a + b) = sRun D (sRun D s a) b
  | 0 => rfl
  | b + 1 => by show sStep D (sRun D s (a + b)) = sStep D _; rw [sRun_add D s a b]

theorem last_at {A B : List (Int × Int)} {m : Nat} (h : m < B.length) : (A ++ B.take (m + 1)).getD ((A ++ B.take (m + 1)).length - 1) (0, 0) = B[m] := by
  have hl : (A ++ B.take (m + 1)).length - 1 = A.length + m := by rw [List.length_append, List.length_take]; omega
  rw [hl, List.getD_eq_getElem?_getD, List.getElem?_append_right (by omega), List.getElem?_take, if_pos (by omega), show A.length + m - A.length = m by omega, List.getElem?_eq_getElem h]
  rfl
theorem less_at {A B : List (Int × Int)} {m : Nat} (h : m < B.length) : (A ++ B.take (m + 1)).take ((A ++ B.take (m + 1)).length - 1) = A ++ B.take m := by
  have hl : (A ++ B.take (m + 1)).length - 1 = A.length + m := by rw [List.length_append, List.length_take]; omega
  rw [hl, List.take_append, List.take_of_length_le (by omega), show A.length + m - A.length = m by omega, List.take_take, Nat.min_eq_left (by omega)]

theorem q_run {M : MeshM} {A B : List (Int × Int)} (hB : ∀ e, e ∈ B → (shB M e.1 e.2 && mayB M e.1 e.2) = false) (S : List (Int × Int)) (n : Nat) : ∀ k, k ≤ B.length → sRun D0 ⟨M, A ++ B, S, n⟩ k = ⟨M, A ++ B.take (B.length - k), S, n⟩
  | 0, _ => by show (⟨M, A ++ B, S, n⟩ : SS) = _; rw [Nat.sub_zero, List.take_length]
  | k + 1, hk => by
    show sStep D0 (sRun D0 _ k) = _
    rw [q_run hB S n k (by omega)]
    obtain ⟨m, hm⟩ : ∃ m, B.length - k = m + 1 := ⟨B.length - k - 1, by omega⟩
    have hmB : m < B.length := by omega
    have e2 : B.length - (k + 1) = m := by omega
    rw [hm, e2]
    have he : (⟨M, A ++ B.take (m + 1), S, n⟩ : SS).e = B[m] := last_at hmB
    have hq := hB _ (List.getElem_mem hmB)
    rw [sStep_skip (by rw [he]; unfold D0; rw [Bool.not_not]; show (shB M B[m].1 B[m].2 && (shB M B[m].1 B[m].2 && mayB M B[m].1 B[m].2)) = false; rw [hq, Bool.and_false])]
    show (⟨M, _, S, n⟩ : SS) = _
    rw [less_at hmB]

structure OkS (L S : List (Int × Int)) (n : Nat) : Prop where
  ll : L.length ≤ 1000000
  sl : S.length ≤ 1000000
  nn : n ≤ 1000000
  sm : ∀ e, e ∈ L → i64ok e.1 ∧ i64ok e.2

theorem goodS_no {s : SS} (hne : s.L ≠ []) (he : i64ok s.e.1 ∧ i64ok s.e.2) (h1 : s.L.length ≤ 1000000) (h2 : s.S.length ≤ 1000000) (h3 : s.n ≤ 1000000) (hs : Sound s.M) (h64 : ∀ p, p ∈ s.M.P → pt64 p) (hl : s.M.P.length ≤ 1048576) (hq : (shB s.M s.e.1 s.e.2 && mayB s.M s.e.1 s.e.2) = false) : GoodS D0 s := by
  refine ⟨hne, he.1, he.2, h1, h2, h3, fun w mb n F h => ?_, fun h4 h5 => ?_⟩
  · have := del_no h h64 hs hl he.1 he.2 hq
    unfold D0
    rw [hq]
    exact this
  · unfold D0 at h5
    rw [hq] at h5
    cases h5
theorem goodS_yes {s : SS} (hne : s.L ≠ []) (he : i64ok s.e.1 ∧ i64ok s.e.2) (h1 : s.L.length ≤ 1000000) (h2 : s.S.length ≤ 1000000) (h3 : s.n ≤ 1000000) (hs : Sound s.M) (h64 : ∀ p, p ∈ s.M.P → pt64 p) (hl : s.M.P.length ≤ 1048576) (hq1 : shB s.M s.e.1 s.e.2 = true) (hq2 : mayB s.M s.e.1 s.e.2 = true)
    (hW : ∀ w, Calls Tryz.prog 65 #[V (ptAt s.M s.e.1), V (ptAt s.M s.e.2), V (ptAt s.M (apD s.M s.e.1 s.e.2)), V (ptAt s.M (apD s.M s.e.2 s.e.1))] w fun r w' => r = .returned (.bool true) ∧ Below w.heap.size w w') : GoodS D0 s := by
  refine ⟨hne, he.1, he.2, h1, h2, h3, fun w mb n F h => ?_, fun h4 h5 => hq2⟩
  have := del_yes h h64 hs hl he.1 he.2 hq1 hq2 true hW
  unfold D0
  rw [hq1, hq2]
  exact this

theorem q_good {M : MeshM} {A B S : List (Int × Int)} {n : Nat} (hB : ∀ e, e ∈ B → (shB M e.1 e.2 && mayB M e.1 e.2) = false) (hs : Sound M) (h64 : ∀ p, p ∈ M.P → pt64 p) (hl : M.P.length ≤ 1048576) (hok : OkS (A ++ B) S n) (k : Nat) (hk : k < B.length) : GoodS D0 (sRun D0 ⟨M, A ++ B, S, n⟩ k) := by
  rw [q_run hB S n k (by omega)]
  obtain ⟨m, hm⟩ : ∃ m, B.length - k = m + 1 := ⟨B.length - k - 1, by omega⟩
  have hmB : m < B.length := by omega
  rw [hm]
  have he : (⟨M, A ++ B.take (m + 1), S, n⟩ : SS).e = B[m] := last_at hmB
  have hmem := List.getElem_mem hmB
  have hll := hok.ll
  refine goodS_no ?_ ?_ ?_ hok.sl hok.nn hs h64 hl ?_
  · intro e
    have := congrArg List.length e
    simp only [List.length_append, List.length_take, List.length_nil] at this
    omega
  · rw [he]; exact hok.sm _ (List.mem_append_right _ hmem)
  · show (A ++ B.take (m + 1)).length ≤ 1000000
    rw [List.length_append] at hll ⊢
    rw [List.length_take]
    omega
  · rw [he]; exact hB _ hmem

/-- a turn of Settle where no edge is turned -/
theorem q_turn {M : MeshM} {B : List (Int × Int)} {n : Nat} (hB : ∀ e, e ∈ B → (shB M e.1 e.2 && mayB M e.1 e.2) = false) (hs : Sound M) (h64 : ∀ p, p ∈ M.P → pt64 p) (hl : M.P.length ≤ 1048576) (hok : OkS B B 0) (hn : n ≤ 100000) : GoodT D0 B.length ⟨M, B, n⟩ ∧ sRun D0 (Stg.s0 ⟨M, B, n⟩) B.length = ⟨M, [], B, 0⟩ := by
  have hr : sRun D0 (Stg.s0 ⟨M, B, n⟩) B.length = ⟨M, [], B, 0⟩ := by
    have := q_run (A := []) hB B 0 B.length (Nat.le_refl _)
    rw [Nat.sub_self] at this
    exact this
  refine ⟨⟨hok.ll, fun k hk => q_good (A := []) hB hs h64 hl hok k hk, by rw [hr], by rw [hr]; exact hn⟩, hr⟩

theorem sm_of {l : List (Int × Int)} (h : l.all (fun e => decide (-1000 ≤ e.1) && decide (e.1 ≤ 1000) && decide (-1000 ≤ e.2) && decide (e.2 ≤ 1000)) = true) : ∀ e, e ∈ l → i64ok e.1 ∧ i64ok e.2 := by
  intro e he
  have := List.all_eq_true.1 h e he
  simp only [Bool.and_eq_true, decide_eq_true_eq] at this
  unfold i64ok
  omega
theorem quiet_of {M : MeshM} {l : List (Int × Int)} (h : l.all (fun e => !(shB M e.1 e.2 && mayB M e.1 e.2)) = true) : ∀ e, e ∈ l → (shB M e.1 e.2 && mayB M e.1 e.2) = false := by
  intro e he
  have h1 : (!(shB M e.1 e.2 && mayB M e.1 e.2)) = true := List.all_eq_true.1 h e he
  cases h2 : (shB M e.1 e.2 && mayB M e.1 e.2)
  · rfl
  · rw [h2] at h1; cases h1

/-! ### the square with a fixed edge -/
theorem fx_quiet : [((0, 1) : Int × Int), (0, 2), (0, 3), (1, 2), (2, 3)].all (fun e => !(shB foX e.1 e.2 && mayB foX e.1 e.2)) = true := by decide +kernel

/-! ### the square that turns -/
def foL : List (Int × Int) := [(0, 1), (0, 2), (0, 3), (1, 2), (2, 3)]
def foL9 : List (Int × Int) := [(0, 1), (0, 2), (0, 3), (1, 2), (2, 3), (0, 1), (1, 2), (2, 3), (3, 0)]
theorem fo_q1 : [((0, 3) : Int × Int), (1, 2), (2, 3)].all (fun e => !(shB foA e.1 e.2 && mayB foA e.1 e.2)) = true := by decide +kernel
theorem fo_q2 : [((0, 1) : Int × Int), (0, 1), (1, 2), (2, 3), (3, 0)].all (fun e => !(shB foB e.1 e.2 && mayB foB e.1 e.2)) = true := by decide +kernel
theorem fo_q3 : foL9.all (fun e => !(shB foB e.1 e.2 && mayB foB e.1 e.2)) = true := by decide +kernel
theorem fo_four : four foA 0 2 = [(0, 1), (1, 2), (2, 3), (3, 0)] := by decide +kernel
theorem fo_run (M N : MeshM) (h1 : ∀ e, e ∈ [((0, 3) : Int × Int), (1, 2), (2, 3)] → (shB M e.1 e.2 && mayB M e.1 e.2) = false) (h2 : shB M 0 2 = true) (h3 : mayB M 0 2 = true) (h4 : four M 0 2 = [(0, 1), (1, 2), (2, 3), (3, 0)]) (h5 : turnR M 0 2 = N)
    (h6 : ∀ e, e ∈ [((0, 1) : Int × Int), (0, 1), (1, 2), (2, 3), (3, 0)] → (shB N e.1 e.2 && mayB N e.1 e.2) = false) :
    sRun D0 ⟨M, foL, foL, 0⟩ 3 = ⟨M, [(0, 1), (0, 2)], foL, 0⟩ ∧ sRun D0 ⟨M, foL, foL, 0⟩ 4 = ⟨N, [] ++ [(0, 1), (0, 1), (1, 2), (2, 3), (3, 0)], foL9, 1⟩ ∧ sRun D0 ⟨M, foL, foL, 0⟩ 9 = ⟨N, [], foL9, 1⟩ := by
  have r3 : sRun D0 ⟨M, foL, foL, 0⟩ 3 = ⟨M, [(0, 1), (0, 2)], foL, 0⟩ := q_run (A := [(0, 1), (0, 2)]) (B := [(0, 3), (1, 2), (2, 3)]) h1 foL 0 3 (by decide)
  have r4 : sRun D0 ⟨M, foL, foL, 0⟩ 4 = ⟨N, [] ++ [(0, 1), (0, 1), (1, 2), (2, 3), (3, 0)], foL9, 1⟩ := by
    show sStep D0 (sRun D0 _ 3) = _
    rw [r3, sStep_flip (show (shB M 0 2 && !D0 M 0 2) = true by unfold D0; rw [h2, h3]; rfl)]
    show (⟨turnR M 0 2, [(0, 1)] ++ four M 0 2, foL ++ four M 0 2, 0 + 1⟩ : SS) = _
    rw [h4, h5]
    rfl
  refine ⟨r3, r4, ?_⟩
  rw [show (9 : Nat) = 4 + 5 from rfl, sRun_add, r4]
  exact q_run (A := []) h6 foL9 1 5 (by decide)
theorem fo_turn : turnR foA 0 2 = foB := by rw [foB]

/-- what the square's first turn of Settle asks -/
theorem fo_good (M N : MeshM) (h1 : ∀ e, e ∈ [((0, 3) : Int × Int), (1, 2), (2, 3)] → (shB M e.1 e.2 && mayB M e.1 e.2) = false) (h2 : shB M 0 2 = true) (h3 : mayB M 0 2 = true) (h4 : four M 0 2 = [(0, 1), (1, 2), (2, 3), (3, 0)]) (h5 : turnR M 0 2 = N)
    (h6 : ∀ e, e ∈ [((0, 1) : Int × Int), (0, 1), (1, 2), (2, 3), (3, 0)] → (shB N e.1 e.2 && mayB N e.1 e.2) = false) (hs : Sound M) (h64 : ∀ p, p ∈ M.P → pt64 p) (hl : M.P.length ≤ 1048576) (hs' : Sound N) (h64' : ∀ p, p ∈ N.P → pt64 p) (hl' : N.P.length ≤ 1048576)
    (hW : ∀ w, Calls Tryz.prog 65 #[V (ptAt M 0), V (ptAt M 2), V (ptAt M (apD M 0 2)), V (ptAt M (apD M 2 0))] w fun r w' => r = .returned (.bool true) ∧ Below w.heap.size w w') :
    GoodT D0 9 ⟨M, foL, 0⟩ := by
  obtain ⟨r3, r4, r9⟩ := fo_run M N h1 h2 h3 h4 h5 h6
  refine ⟨(by decide : foL.length ≤ 1000000), fun k hk => ?_, ?_, ?_⟩
  · show GoodS D0 (sRun D0 ⟨M, foL, foL, 0⟩ k)
    rcases (show k < 3 ∨ k = 3 ∨ 3 < k by omega) with h | rfl | h
    · exact q_good (A := [(0, 1), (0, 2)]) (B := [(0, 3), (1, 2), (2, 3)]) h1 hs h64 hl ⟨by decide, by decide, by decide, sm_of (by decide)⟩ k h
    · rw [r3]
      exact goodS_yes (s := ⟨M, [(0, 1), (0, 2)], foL, 0⟩) (by simp) (show i64ok 0 ∧ i64ok 2 from ⟨by unfold i64ok; decide, by unfold i64ok; decide⟩) (show [((0, 1) : Int × Int), (0, 2)].length ≤ 1000000 by decide) (show foL.length ≤ 1000000 by decide) (show 0 ≤ 1000000 by decide) hs h64 hl h2 h3 hW
    · obtain ⟨m, rfl⟩ : ∃ m, k = 4 + m := ⟨k - 4, by omega⟩
      rw [sRun_add, r4]
      exact q_good (A := []) (B := [(0, 1), (0, 1), (1, 2), (2, 3), (3, 0)]) h6 hs' h64' hl' ⟨by decide, by decide, by decide, sm_of (by decide)⟩ m (by simp only [List.length_cons, List.length_nil]; omega)
  · show (sRun D0 ⟨M, foL, foL, 0⟩ 9).L = []
    rw [r9]
  · show 0 + (sRun D0 ⟨M, foL, foL, 0⟩ 9).n ≤ 100000
    rw [r9]; show 0 + 1 ≤ 100000; decide

end Go.Proofs.YthookkmgmholcaaGreatDoor
