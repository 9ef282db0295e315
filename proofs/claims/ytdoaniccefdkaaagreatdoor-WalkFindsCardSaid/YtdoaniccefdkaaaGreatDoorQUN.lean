/- trivetlaw16.WalkFinds: the row's closed facts. -/
import Derived.Test.YtdoaniccefdkaaaGreatDoorRows
import Derived.Test.YtdoaniccefdkaaaGreatDoorTie
import Derived.Test.YtdoaniccefdkaaaGreatDoorCards
import Derived.Stop.Joined
import Derived.SevenTiedAt
set_option linter.all false
namespace Go.Proofs.YtdoaniccefdkaaaGreatDoor
open Go.ChangeShapes Go.WideShapes

theorem and_walkFinds {a b : Bool} (ha : a = true) (hb : b = true) : (a && b) = true := by rw [ha, hb]; rfl

set_option maxRecDepth 100000 in
set_option maxHeartbeats 4000000 in
theorem walkFinds_closed : joinedFacts Tryz.prog 9 Tryz.f9 Rows.walkFindsSpec Rows.walkFindsRow = true := by
  unfold joinedFacts
  repeat' (with_reducible refine and_walkFinds ?_ ?_)
  all_goals (as_aux_lemma => kernel_rfl)

end Go.Proofs.YtdoaniccefdkaaaGreatDoor
