/- trivetlaw17.FlipTurns: THE ROW: the law returns true, and each argument reads as it read. Conditions: those of the row. -/
import Derived.Test.YtbagikgpgdlkcaaGreatDoorRows
import Derived.Test.YtbagikgpgdlkcaaGreatDoorTie
import Derived.Test.YtbagikgpgdlkcaaGreatDoorCards
import Derived.Test.YtbagikgpgdlkcaaGreatDoorQUT
import Derived.Test.YtbagikgpgdlkcaaGreatDoorQUU
import Derived.Stop.Joined
import Derived.SevenTiedAt
set_option linter.all false
set_option maxHeartbeats 8000000
set_option maxRecDepth 100000
namespace Go.Proofs.YtbagikgpgdlkcaaGreatDoor
open Go.ChangeShapes Go.WideShapes Go.ChangeAt Go.RowKit Go.Deep
theorem flipTurns_said : Rows.FlipTurnsSaid :=
 OpenClaim.holds_of_wide 4 Tryz.f4 rfl rfl rfl rfl rfl rfl rfl ⟨rfl, rfl, rfl, rfl, rfl⟩ rfl rfl rfl rfl rfl (by as_aux_lemma => kernel_rfl) Tryz.func4 fturns_closed
  (of_decide_eq_true (by kernel_rfl)) (by unfold Func.isWrapper; first | (rw [if_pos (by decide +kernel)]; kernel_rfl) | (rw [if_neg (by decide +kernel)]; exact ⟨rfl, rfl⟩))
  (fun os started H enc _ => fturns_lifted os started H enc)
theorem flipTurns_holds : Rows.FlipTurnsCardSaid :=
 Claim7.holds_tied_plain_at .later [] [.data] true (true, "18804461fea85de05295f51e79b5a22c6ffedccd53156932b5f79a6a1b58cd38") true
  flipTurns_said (fun _ h => by cases h) (by as_aux_lemma => kernel_rfl) (fun _ h => by cases h) flipTurns_row_tie rfl ⟨rfl, rfl⟩ (by as_aux_lemma => kernel_rfl) rfl
  (fun f fn hf hfn => by
   obtain rfl : f = 4 := Option.some.inj ((show Tryz.prog.funcNamed "trivet/trivetlaw17.FlipTurns" = some 4 by as_aux_lemma => kernel_rfl).symm.trans hf) |>.symm
   obtain rfl : fn = Tryz.f4 := (Option.some.inj (Tryz.func4.symm.trans hfn)).symm
   exact ⟨by as_aux_lemma => kernel_rfl, fun j t ht => by
    rw [Tryz.params4] at ht
    have hm : t ∈ [26, 38] := by simpa using Array.mem_of_getElem? ht
    have hall : ([26, 38].all fun u => !Tryz.prog.wantsStandIn u) = true := by kernel_rfl
    exact (show Tryz.prog.wantsStandIn t = false by simpa using List.all_eq_true.1 hall t hm)⟩)
  (by as_aux_lemma => kernel_rfl)
#print axioms flipTurns_holds
end Go.Proofs.YtbagikgpgdlkcaaGreatDoor
