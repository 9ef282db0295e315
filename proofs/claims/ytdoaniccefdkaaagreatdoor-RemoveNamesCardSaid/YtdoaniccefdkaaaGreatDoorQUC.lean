/- trivetlaw19.RemoveNames: THE ROW: the law returns true (it has no arguments). Conditions: those of the row. -/
import Derived.Test.YtdoaniccefdkaaaGreatDoorRows
import Derived.Test.YtdoaniccefdkaaaGreatDoorTie
import Derived.Test.YtdoaniccefdkaaaGreatDoorCards
import Derived.Test.YtdoaniccefdkaaaGreatDoorQUA
import Derived.Test.YtdoaniccefdkaaaGreatDoorQUB
import Derived.Stop.Joined
import Derived.SevenTiedAt
set_option linter.all false
namespace Go.Proofs.YtdoaniccefdkaaaGreatDoor
open Go.ChangeShapes Go.WideShapes Go.ChangeAt Go.RowKit Go.Deep

set_option maxRecDepth 100000 in
set_option maxHeartbeats 4000000 in
theorem removeNames_said : Rows.RemoveNamesSaid :=
  OpenClaim.holds_of_wide 14 Tryz.f14 rfl rfl rfl rfl rfl rfl rfl ⟨rfl, rfl, rfl, rfl, rfl⟩ rfl rfl rfl rfl rfl (by as_aux_lemma => kernel_rfl) Tryz.func14 rnames_closed
    (of_decide_eq_true (by kernel_rfl)) (by unfold Func.isWrapper; first | (rw [if_pos (by decide +kernel)]; kernel_rfl) | (rw [if_neg (by decide +kernel)]; exact ⟨rfl, rfl⟩))
    (fun os started H enc _ => rnames_lifted os started H enc)

set_option maxRecDepth 100000 in
set_option maxHeartbeats 4000000 in
theorem removeNames_holds : Rows.RemoveNamesCardSaid :=
  Claim7.holds_tied_plain_at .later [] [.data] true (true, "2876c414a54528a33f1b5ce3c57f2e22c4e1df3a2a294b6632337a1d692fa02c") true
    removeNames_said (fun _ h => by cases h) (by as_aux_lemma => kernel_rfl) (fun _ h => by cases h) removeNames_row_tie rfl ⟨rfl, rfl⟩ (by as_aux_lemma => kernel_rfl) rfl
    (fun f fn hf hfn => by
      obtain rfl : f = 14 := Option.some.inj ((show Tryz.prog.funcNamed "trivet/trivetlaw19.RemoveNames" = some 14 by as_aux_lemma => kernel_rfl).symm.trans hf) |>.symm
      obtain rfl : fn = Tryz.f14 := (Option.some.inj (Tryz.func14.symm.trans hfn)).symm
      exact ⟨by as_aux_lemma => kernel_rfl, fun j t ht => by
        rw [Tryz.params14] at ht
        simp at ht⟩)
    (by as_aux_lemma => kernel_rfl)
#print axioms removeNames_holds

end Go.Proofs.YtdoaniccefdkaaaGreatDoor
