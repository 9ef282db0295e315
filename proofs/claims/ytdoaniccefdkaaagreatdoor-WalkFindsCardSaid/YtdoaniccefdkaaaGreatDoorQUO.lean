/- trivetlaw16.WalkFinds: THE ROW: the law returns true, and each argument reads as it read. Conditions: those of the row. -/
import Derived.Test.YtdoaniccefdkaaaGreatDoorRows
import Derived.Test.YtdoaniccefdkaaaGreatDoorTie
import Derived.Test.YtdoaniccefdkaaaGreatDoorCards
import Derived.Test.YtdoaniccefdkaaaGreatDoorQUM
import Derived.Test.YtdoaniccefdkaaaGreatDoorQUN
import Derived.Stop.Joined
import Derived.SevenTiedAt
set_option linter.all false
namespace Go.Proofs.YtdoaniccefdkaaaGreatDoor
open Go.ChangeShapes Go.WideShapes Go.ChangeAt Go.RowKit Go.Deep

set_option maxRecDepth 100000 in
set_option maxHeartbeats 4000000 in
theorem walkFinds_said : Rows.WalkFindsSaid :=
  OpenClaim.holds_of_wide 9 Tryz.f9 rfl rfl rfl rfl rfl rfl rfl ⟨rfl, rfl, rfl, rfl, rfl⟩ rfl rfl rfl rfl rfl (by as_aux_lemma => kernel_rfl) Tryz.func9 walkFinds_closed
    (of_decide_eq_true (by kernel_rfl)) (by unfold Func.isWrapper; first | (rw [if_pos (by decide +kernel)]; kernel_rfl) | (rw [if_neg (by decide +kernel)]; exact ⟨rfl, rfl⟩))
    (fun os started H enc _ => walkFinds_lifted os started H enc)

set_option maxRecDepth 100000 in
set_option maxHeartbeats 4000000 in
theorem walkFinds_holds : Rows.WalkFindsCardSaid :=
  Claim7.holds_tied_plain_at .later [] [.data] true (true, "2876c414a54528a33f1b5ce3c57f2e22c4e1df3a2a294b6632337a1d692fa02c") true
    walkFinds_said (fun _ h => by cases h) (by as_aux_lemma => kernel_rfl) (fun _ h => by cases h) walkFinds_row_tie rfl ⟨rfl, rfl⟩ (by as_aux_lemma => kernel_rfl) rfl
    (fun f fn hf hfn => by
      obtain rfl : f = 9 := Option.some.inj ((show Tryz.prog.funcNamed "trivet/trivetlaw16.WalkFinds" = some 9 by as_aux_lemma => kernel_rfl).symm.trans hf) |>.symm
      obtain rfl : fn = Tryz.f9 := (Option.some.inj (Tryz.func9.symm.trans hfn)).symm
      exact ⟨by as_aux_lemma => kernel_rfl, fun j t ht => by
        rw [Tryz.params9] at ht
        have hm : t ∈ [22, 23, 52, 83] := by simpa using Array.mem_of_getElem? ht
        have hall : ([22, 23, 52, 83].all fun u => !Tryz.prog.wantsStandIn u) = true := by kernel_rfl
        exact (show Tryz.prog.wantsStandIn t = false by simpa using List.all_eq_true.1 hall t hm)⟩)
    (by as_aux_lemma => kernel_rfl)
#print axioms walkFinds_holds

end Go.Proofs.YtdoaniccefdkaaaGreatDoor
