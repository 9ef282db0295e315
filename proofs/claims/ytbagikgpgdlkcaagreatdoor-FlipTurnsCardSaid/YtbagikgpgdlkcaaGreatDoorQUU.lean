/- trivetlaw17.FlipTurns: the row's closed facts. -/
import Derived.Test.YtbagikgpgdlkcaaGreatDoorRows
import Derived.Test.YtbagikgpgdlkcaaGreatDoorTie
import Derived.Test.YtbagikgpgdlkcaaGreatDoorCards
import Derived.Stop.Joined
import Derived.SevenTiedAt
set_option linter.all false
set_option maxHeartbeats 8000000
set_option maxRecDepth 100000
namespace Go.Proofs.YtbagikgpgdlkcaaGreatDoor
open Go.ChangeShapes Go.WideShapes
theorem and_tu {a b : Bool} (ha : a = true) (hb : b = true) : (a && b) = true := by rw [ha,hb]; rfl
theorem fturns_closed : joinedFacts Tryz.prog 4 Tryz.f4 Rows.flipTurnsSpec Rows.flipTurnsRow = true := by
 unfold joinedFacts
 repeat' (with_reducible refine and_tu ?_ ?_)
 all_goals (as_aux_lemma => kernel_rfl)
end Go.Proofs.YtbagikgpgdlkcaaGreatDoor
