/-
  DERIVED. GIVEN WITH THE SEED: THE CARDS: each row of YtbagikgpgdlkcaaGreatDoorRows.lean that lists a variable, with what it lists TIED to the program's text (the seventh form; the later family's looks); each row that meets fmt, with fmt's text TOLD by the authors' own Lean function (tested against real Go, not proved from fmt's source: count such statements apart). THE CARD IS WHAT COUNTS. Prove the row's statement (the work); the ties are given (YtbagikgpgdlkcaaGreatDoorTie.lean); close each card by the builder's one call (the guide's Derived/Test/ToyasCard.lean, 'card_holds'). Laid BY PROGRAM, IN A SANDBOX (cutbox-door.mjs). By AI agents, Wed Nov 11 2026. No macro, syntax, notation, axiom, sorry.
-/
import Derived.Test.YtbagikgpgdlkcaaGreatDoorRows
import GoSem.ClaimSeven
namespace Go.Proofs.YtbagikgpgdlkcaaGreatDoor
namespace Rows

/-- THE TIED CARD OF 'trivetlaw17.FlipBack'. -/
def flipBackCard : Claim7 := { stood := { row := flipBackRow, standIns := [], harness := (true, "18804461fea85de05295f51e79b5a22c6ffedccd53156932b5f79a6a1b58cd38"), looks := true }, kinds := [], alts := [], laidByText := true, laidKinds := [.data], laidTests := true, laidLooks := .later }
def FlipBackCardSaid : Prop := Claim7.holds Tryz.pinned (.plain (OpenSpec.ofChange flipBackSpec)) flipBackCard

/-- THE TIED CARD OF 'trivetlaw17.FlipTurns'. -/
def flipTurnsCard : Claim7 := { stood := { row := flipTurnsRow, standIns := [], harness := (true, "18804461fea85de05295f51e79b5a22c6ffedccd53156932b5f79a6a1b58cd38"), looks := true }, kinds := [], alts := [], laidByText := true, laidKinds := [.data], laidTests := true, laidLooks := .later }
def FlipTurnsCardSaid : Prop := Claim7.holds Tryz.pinned (.plain (OpenSpec.ofChange flipTurnsSpec)) flipTurnsCard

/-- THE TIED CARD OF 'trivetlaw17.FlipSettles'. -/
def flipSettlesCard : Claim7 := { stood := { row := flipSettlesRow, standIns := [], harness := (true, "18804461fea85de05295f51e79b5a22c6ffedccd53156932b5f79a6a1b58cd38"), looks := true }, kinds := [], alts := [], laidByText := true, laidKinds := [.data], laidTests := true, laidLooks := .later }
def FlipSettlesCardSaid : Prop := Claim7.holds Tryz.pinned (.plain (OpenSpec.ofChange flipSettlesSpec)) flipSettlesCard

/-- THE TIED CARD OF 'trivetlaw15.MeshOf'. -/
def meshOfCard : Claim7 := { stood := { row := meshOfRow, standIns := [], harness := (true, "18804461fea85de05295f51e79b5a22c6ffedccd53156932b5f79a6a1b58cd38"), looks := true }, kinds := [], alts := [], laidByText := true, laidKinds := [.data], laidTests := true, laidLooks := .later }
def MeshOfCardSaid : Prop := Claim7.holds Tryz.pinned (.plain (OpenSpec.ofChange meshOfSpec)) meshOfCard

/-- THE TIED CARD OF 'trivetlaw15.MeshPlays'. -/
def meshPlaysCard : Claim7 := { stood := { row := meshPlaysRow, standIns := [], harness := (true, "18804461fea85de05295f51e79b5a22c6ffedccd53156932b5f79a6a1b58cd38"), looks := true }, kinds := [], alts := [], laidByText := true, laidKinds := [.data], laidTests := true, laidLooks := .later }
def MeshPlaysCardSaid : Prop := Claim7.holds Tryz.pinned (.plain (OpenSpec.ofChange meshPlaysSpec)) meshPlaysCard

/-- THE SECOND FORM's CARD OF 'trivetlaw17.FlipBack'. -/
def flipBackUptoCard : Claim7 := { stood := { row := flipBackUptoRow, standIns := [], harness := (true, "18804461fea85de05295f51e79b5a22c6ffedccd53156932b5f79a6a1b58cd38"), looks := true }, kinds := [], alts := [], laidByText := true, laidKinds := [.data], laidTests := true, laidLooks := .later }
def FlipBackUptoCardSaid : Prop := Claim7.holds Tryz.pinned (.plain (OpenSpec.upto flipBackSpec)) flipBackUptoCard

/-- THE SECOND FORM's CARD OF 'trivetlaw17.FlipTurns'. -/
def flipTurnsUptoCard : Claim7 := { stood := { row := flipTurnsUptoRow, standIns := [], harness := (true, "18804461fea85de05295f51e79b5a22c6ffedccd53156932b5f79a6a1b58cd38"), looks := true }, kinds := [], alts := [], laidByText := true, laidKinds := [.data], laidTests := true, laidLooks := .later }
def FlipTurnsUptoCardSaid : Prop := Claim7.holds Tryz.pinned (.plain (OpenSpec.upto flipTurnsSpec)) flipTurnsUptoCard

/-- THE SECOND FORM's CARD OF 'trivetlaw17.FlipSettles'. -/
def flipSettlesUptoCard : Claim7 := { stood := { row := flipSettlesUptoRow, standIns := [], harness := (true, "18804461fea85de05295f51e79b5a22c6ffedccd53156932b5f79a6a1b58cd38"), looks := true }, kinds := [], alts := [], laidByText := true, laidKinds := [.data], laidTests := true, laidLooks := .later }
def FlipSettlesUptoCardSaid : Prop := Claim7.holds Tryz.pinned (.plain (OpenSpec.upto flipSettlesSpec)) flipSettlesUptoCard

/-- THE SECOND FORM's CARD OF 'trivetlaw15.MeshOf'. -/
def meshOfUptoCard : Claim7 := { stood := { row := meshOfUptoRow, standIns := [], harness := (true, "18804461fea85de05295f51e79b5a22c6ffedccd53156932b5f79a6a1b58cd38"), looks := true }, kinds := [], alts := [], laidByText := true, laidKinds := [.data], laidTests := true, laidLooks := .later }
def MeshOfUptoCardSaid : Prop := Claim7.holds Tryz.pinned (.plain (OpenSpec.upto meshOfSpec)) meshOfUptoCard

/-- THE SECOND FORM's CARD OF 'trivetlaw15.MeshPlays'. -/
def meshPlaysUptoCard : Claim7 := { stood := { row := meshPlaysUptoRow, standIns := [], harness := (true, "18804461fea85de05295f51e79b5a22c6ffedccd53156932b5f79a6a1b58cd38"), looks := true }, kinds := [], alts := [], laidByText := true, laidKinds := [.data], laidTests := true, laidLooks := .later }
def MeshPlaysUptoCardSaid : Prop := Claim7.holds Tryz.pinned (.plain (OpenSpec.upto meshPlaysSpec)) meshPlaysUptoCard
end Rows
end Go.Proofs.YtbagikgpgdlkcaaGreatDoor
