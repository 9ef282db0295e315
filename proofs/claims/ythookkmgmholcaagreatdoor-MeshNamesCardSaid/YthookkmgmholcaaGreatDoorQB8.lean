/- slices.Clone of a row of numbers. -/
import Derived.Test.YthookkmgmholcaaGreatDoorQB7
namespace Go.Proofs.YthookkmgmholcaaGreatDoor
open Go.RowKit Go.Maps Go.WideMaps

set_option maxRecDepth 100000 in
set_option maxHeartbeats 1000000 in
theorem cloneI_nil (cap : Nat) (w : World) :
    Calls Tryz.prog 92 #[.slice none 0 cap] w fun e w' => e = .returned (.slice none 0 0) ∧ w' = w := by
  have q22 : ∀ (w : World) (a : Option Addr) (n c n' c' : Nat), (binOp .eql 65 (.slice a n c) (.slice none n' c')).run Tryz.prog w = .ok (.bool a.isNone) w := fun w a n c n' c' => Lib.run_eql_slice_nil w _ _ a n c n' c' Tryz.underlying65
  go_enter Tryz.func92, Tryz.ntmps92
  go_wp2
  go_ret
  exact ⟨rfl, rfl⟩

set_option maxRecDepth 100000 in
set_option maxHeartbeats 1000000 in
theorem cloneI_some (l : List Int) (a : Addr) (cap : Nat) (hl : l.length ≤ 2000000000) (w : World) (hc : ∀ j u, (l.map (Value.int .i64))[j]? = some u → w.cell? (a.add j) = some u) :
    Calls Tryz.prog 92 #[.slice (some a) l.length cap] w fun e w' => ∃ v', e = .returned v' ∧ w'.ownsRow w.heap.size 3 1 v' l.length (l.map (Value.int .i64)) ∧ Below w.heap.size w w' := by
  obtain ⟨i0, hi, hz0, hz1, hz2⟩ := info_parts infoInt
  have HC := Lib.hid hc
  clear hc
  have h1 := Lib.hid (ints_oneCell .i64 l)
  have q22 : ∀ (w : World) (a : Option Addr) (n c n' c' : Nat), (binOp .eql 65 (.slice a n c) (.slice none n' c')).run Tryz.prog w = .ok (.bool a.isNone) w := fun w a n c n' c' => Lib.run_eql_slice_nil w _ _ a n c n' c' Tryz.underlying65
  go_enter Tryz.func92, Tryz.ntmps92
  go_wp2_with (at_builtin; refine wpList_append_own _ rfl _ _ 65 rfl w.heap.size 3 i0 (.int .i64 0) 1 8 Tryz.underlying65 hi hz0 hz1 hz2 rfl (by decide) _ _ _ rfl (World.ownsRow_made w #[] 0 (Nat.le_refl _) (Nat.zero_le _) (by simp)) a l.length cap (l.map (Value.int .i64)) rfl ?qc1 ?qc2 ?qc3 ?qc4 ?qc5 ?qc6 ?_)
  case qc1 => simp
  case qc2 => intro j u hj; exact Lib.cell?_alloc_some _ (HC.out j u hj)
  case qc3 => exact h1.out
  case qc4 => unfold maxLen; omega
  case qc5 => omega
  case qc6 => simp
  intro v' w1 hown hgrow hnil
  go_wp2
  go_ret
  refine ⟨v', rfl, by simpa using hown, ((Below.refl _ w).alloc (Nat.le_refl _) _).grown hgrow (by simp) (by intro k hk; simp [Value.ownBlock] at hk; omega)⟩

theorem cloneI_walk {w : World} {v : Value} {l : List Int} (h : w.ownsInts 0 3 .i64 v l) (hl : l.length ≤ 2000000000) :
    Calls Tryz.prog 92 #[v] w fun e w' => ∃ v', e = .returned v' ∧ w'.ownsInts w.heap.size 3 .i64 v' l ∧ Below w.heap.size w w' := by
  obtain ⟨ad, cap, rfl, hc⟩ := ints_cells h
  cases ad with
  | none =>
    have h0 : l.length = 0 := by
      apply Classical.byContradiction; intro hn
      obtain ⟨_, e, _⟩ := hc (by omega)
      cases e
    have : l = [] := List.length_eq_zero_iff.1 h0
    subst this
    refine (cloneI_nil cap w).mono ?_
    rintro r w' ⟨rfl, rfl⟩
    exact ⟨_, rfl, World.ownsInts_nil _ _ _ _, Below.refl _ _⟩
  | some a =>
    refine (cloneI_some l a cap hl w ?_).mono ?_
    · intro j u hu
      have hj : j < l.length := by simpa using (List.getElem?_eq_some_iff.1 hu).1
      obtain ⟨g, e, _, hcc⟩ := hc (by omega)
      cases e
      rw [Addr.add_lit, Nat.zero_add, hcc j hj, ← hu, List.getElem?_map, List.getElem?_eq_getElem hj, List.getD_eq_getElem?_getD, List.getElem?_eq_getElem hj]
      rfl
    · rintro r w' ⟨v', rfl, ho, hb⟩
      exact ⟨v', rfl, ⟨ho, h.2⟩, hb⟩

end Go.Proofs.YthookkmgmholcaaGreatDoor
