/-
  DERIVED. GIVEN WITH THE SEED: THE CARDS: each row of YthookkmgmholcaaGreatDoorRows.lean that lists a variable, with what it lists TIED to the program's text (the seventh form; the later family's looks); each row that meets fmt, with fmt's text TOLD by the authors' own Lean function (tested against real Go, not proved from fmt's source: count such statements apart). THE CARD IS WHAT COUNTS. Prove the row's statement (the work); the ties are given (YthookkmgmholcaaGreatDoorTie.lean); close each card by the builder's one call (the guide's Derived/Test/ToyasCard.lean, 'card_holds'). Laid BY PROGRAM, IN A SANDBOX (cutbox-door.mjs). By AI agents, Wed Nov 11 2026. No macro, syntax, notation, axiom, sorry.
-/
import Derived.Test.YthookkmgmholcaaGreatDoorRows
import GoSem.ClaimSeven
namespace Go.Proofs.YthookkmgmholcaaGreatDoor
namespace Rows

/-- THE TIED CARD OF 'trivetlaw17.FlipNames'. -/
def flipNamesCard : Claim7 := { stood := { row := flipNamesRow, standIns := [], harness := (true, "06e2ff7fa5f780746469a634a6486a614c10382a9190a2b2285b93eee4c741e4"), looks := true }, kinds := [], alts := [], laidByText := true, laidKinds := [.data], laidTests := true, laidLooks := .later }
def FlipNamesCardSaid : Prop := Claim7.holds Tryz.pinned (.plain (OpenSpec.ofChange flipNamesSpec)) flipNamesCard

/-- THE TIED CARD OF 'trivetlaw17.FlipBack'. -/
def flipBackCard : Claim7 := { stood := { row := flipBackRow, standIns := [], harness := (true, "06e2ff7fa5f780746469a634a6486a614c10382a9190a2b2285b93eee4c741e4"), looks := true }, kinds := [], alts := [], laidByText := true, laidKinds := [.data], laidTests := true, laidLooks := .later }
def FlipBackCardSaid : Prop := Claim7.holds Tryz.pinned (.plain (OpenSpec.ofChange flipBackSpec)) flipBackCard

/-- THE TIED CARD OF 'trivetlaw17.FlipTurns'. -/
def flipTurnsCard : Claim7 := { stood := { row := flipTurnsRow, standIns := [], harness := (true, "06e2ff7fa5f780746469a634a6486a614c10382a9190a2b2285b93eee4c741e4"), looks := true }, kinds := [], alts := [], laidByText := true, laidKinds := [.data], laidTests := true, laidLooks := .later }
def FlipTurnsCardSaid : Prop := Claim7.holds Tryz.pinned (.plain (OpenSpec.ofChange flipTurnsSpec)) flipTurnsCard

/-- THE TIED CARD OF 'trivetlaw17.FlipSettles'. -/
def flipSettlesCard : Claim7 := { stood := { row := flipSettlesRow, standIns := [], harness := (true, "06e2ff7fa5f780746469a634a6486a614c10382a9190a2b2285b93eee4c741e4"), looks := true }, kinds := [], alts := [], laidByText := true, laidKinds := [.data], laidTests := true, laidLooks := .later }
def FlipSettlesCardSaid : Prop := Claim7.holds Tryz.pinned (.plain (OpenSpec.ofChange flipSettlesSpec)) flipSettlesCard

/-- THE TIED CARD OF 'trivetlaw15.MeshCounted'. -/
def meshCountedCard : Claim7 := { stood := { row := meshCountedRow, standIns := [], harness := (true, "06e2ff7fa5f780746469a634a6486a614c10382a9190a2b2285b93eee4c741e4"), looks := true }, kinds := [], alts := [], laidByText := true, laidKinds := [.data], laidTests := true, laidLooks := .later }
def MeshCountedCardSaid : Prop := Claim7.holds Tryz.pinned (.plain (OpenSpec.ofChange meshCountedSpec)) meshCountedCard

/-- THE TIED CARD OF 'trivetlaw15.MeshAgain'. -/
def meshAgainCard : Claim7 := { stood := { row := meshAgainRow, standIns := [], harness := (true, "06e2ff7fa5f780746469a634a6486a614c10382a9190a2b2285b93eee4c741e4"), looks := true }, kinds := [], alts := [], laidByText := true, laidKinds := [.data], laidTests := true, laidLooks := .later }
def MeshAgainCardSaid : Prop := Claim7.holds Tryz.pinned (.plain (OpenSpec.ofChange meshAgainSpec)) meshAgainCard

/-- THE TIED CARD OF 'trivetlaw15.MeshUndone'. -/
def meshUndoneCard : Claim7 := { stood := { row := meshUndoneRow, standIns := [], harness := (true, "06e2ff7fa5f780746469a634a6486a614c10382a9190a2b2285b93eee4c741e4"), looks := true }, kinds := [], alts := [], laidByText := true, laidKinds := [.data], laidTests := true, laidLooks := .later }
def MeshUndoneCardSaid : Prop := Claim7.holds Tryz.pinned (.plain (OpenSpec.ofChange meshUndoneSpec)) meshUndoneCard

/-- THE TIED CARD OF 'trivetlaw15.MeshOf'. -/
def meshOfCard : Claim7 := { stood := { row := meshOfRow, standIns := [], harness := (true, "06e2ff7fa5f780746469a634a6486a614c10382a9190a2b2285b93eee4c741e4"), looks := true }, kinds := [], alts := [], laidByText := true, laidKinds := [.data], laidTests := true, laidLooks := .later }
def MeshOfCardSaid : Prop := Claim7.holds Tryz.pinned (.plain (OpenSpec.ofChange meshOfSpec)) meshOfCard

/-- THE TIED CARD OF 'trivetlaw15.MeshPlays'. -/
def meshPlaysCard : Claim7 := { stood := { row := meshPlaysRow, standIns := [], harness := (true, "06e2ff7fa5f780746469a634a6486a614c10382a9190a2b2285b93eee4c741e4"), looks := true }, kinds := [], alts := [], laidByText := true, laidKinds := [.data], laidTests := true, laidLooks := .later }
def MeshPlaysCardSaid : Prop := Claim7.holds Tryz.pinned (.plain (OpenSpec.ofChange meshPlaysSpec)) meshPlaysCard

/-- THE TIED CARD OF 'trivetlaw15.MeshNames'. -/
def meshNamesCard : Claim7 := { stood := { row := meshNamesRow, standIns := [], harness := (true, "06e2ff7fa5f780746469a634a6486a614c10382a9190a2b2285b93eee4c741e4"), looks := true }, kinds := [], alts := [], laidByText := true, laidKinds := [.data], laidTests := true, laidLooks := .later }
def MeshNamesCardSaid : Prop := Claim7.holds Tryz.pinned (.plain (OpenSpec.ofChange meshNamesSpec)) meshNamesCard

/-- THE SECOND FORM's CARD OF 'trivetlaw17.FlipNames'. -/
def flipNamesUptoCard : Claim7 := { stood := { row := flipNamesUptoRow, standIns := [], harness := (true, "06e2ff7fa5f780746469a634a6486a614c10382a9190a2b2285b93eee4c741e4"), looks := true }, kinds := [], alts := [], laidByText := true, laidKinds := [.data], laidTests := true, laidLooks := .later }
def FlipNamesUptoCardSaid : Prop := Claim7.holds Tryz.pinned (.plain (OpenSpec.upto flipNamesSpec)) flipNamesUptoCard

/-- THE SECOND FORM's CARD OF 'trivetlaw17.FlipBack'. -/
def flipBackUptoCard : Claim7 := { stood := { row := flipBackUptoRow, standIns := [], harness := (true, "06e2ff7fa5f780746469a634a6486a614c10382a9190a2b2285b93eee4c741e4"), looks := true }, kinds := [], alts := [], laidByText := true, laidKinds := [.data], laidTests := true, laidLooks := .later }
def FlipBackUptoCardSaid : Prop := Claim7.holds Tryz.pinned (.plain (OpenSpec.upto flipBackSpec)) flipBackUptoCard

/-- THE SECOND FORM's CARD OF 'trivetlaw17.FlipTurns'. -/
def flipTurnsUptoCard : Claim7 := { stood := { row := flipTurnsUptoRow, standIns := [], harness := (true, "06e2ff7fa5f780746469a634a6486a614c10382a9190a2b2285b93eee4c741e4"), looks := true }, kinds := [], alts := [], laidByText := true, laidKinds := [.data], laidTests := true, laidLooks := .later }
def FlipTurnsUptoCardSaid : Prop := Claim7.holds Tryz.pinned (.plain (OpenSpec.upto flipTurnsSpec)) flipTurnsUptoCard

/-- THE SECOND FORM's CARD OF 'trivetlaw17.FlipSettles'. -/
def flipSettlesUptoCard : Claim7 := { stood := { row := flipSettlesUptoRow, standIns := [], harness := (true, "06e2ff7fa5f780746469a634a6486a614c10382a9190a2b2285b93eee4c741e4"), looks := true }, kinds := [], alts := [], laidByText := true, laidKinds := [.data], laidTests := true, laidLooks := .later }
def FlipSettlesUptoCardSaid : Prop := Claim7.holds Tryz.pinned (.plain (OpenSpec.upto flipSettlesSpec)) flipSettlesUptoCard

/-- THE SECOND FORM's CARD OF 'trivetlaw15.MeshCounted'. -/
def meshCountedUptoCard : Claim7 := { stood := { row := meshCountedUptoRow, standIns := [], harness := (true, "06e2ff7fa5f780746469a634a6486a614c10382a9190a2b2285b93eee4c741e4"), looks := true }, kinds := [], alts := [], laidByText := true, laidKinds := [.data], laidTests := true, laidLooks := .later }
def MeshCountedUptoCardSaid : Prop := Claim7.holds Tryz.pinned (.plain (OpenSpec.upto meshCountedSpec)) meshCountedUptoCard

/-- THE SECOND FORM's CARD OF 'trivetlaw15.MeshAgain'. -/
def meshAgainUptoCard : Claim7 := { stood := { row := meshAgainUptoRow, standIns := [], harness := (true, "06e2ff7fa5f780746469a634a6486a614c10382a9190a2b2285b93eee4c741e4"), looks := true }, kinds := [], alts := [], laidByText := true, laidKinds := [.data], laidTests := true, laidLooks := .later }
def MeshAgainUptoCardSaid : Prop := Claim7.holds Tryz.pinned (.plain (OpenSpec.upto meshAgainSpec)) meshAgainUptoCard

/-- THE SECOND FORM's CARD OF 'trivetlaw15.MeshUndone'. -/
def meshUndoneUptoCard : Claim7 := { stood := { row := meshUndoneUptoRow, standIns := [], harness := (true, "06e2ff7fa5f780746469a634a6486a614c10382a9190a2b2285b93eee4c741e4"), looks := true }, kinds := [], alts := [], laidByText := true, laidKinds := [.data], laidTests := true, laidLooks := .later }
def MeshUndoneUptoCardSaid : Prop := Claim7.holds Tryz.pinned (.plain (OpenSpec.upto meshUndoneSpec)) meshUndoneUptoCard

/-- THE SECOND FORM's CARD OF 'trivetlaw15.MeshOf'. -/
def meshOfUptoCard : Claim7 := { stood := { row := meshOfUptoRow, standIns := [], harness := (true, "06e2ff7fa5f780746469a634a6486a614c10382a9190a2b2285b93eee4c741e4"), looks := true }, kinds := [], alts := [], laidByText := true, laidKinds := [.data], laidTests := true, laidLooks := .later }
def MeshOfUptoCardSaid : Prop := Claim7.holds Tryz.pinned (.plain (OpenSpec.upto meshOfSpec)) meshOfUptoCard

/-- THE SECOND FORM's CARD OF 'trivetlaw15.MeshPlays'. -/
def meshPlaysUptoCard : Claim7 := { stood := { row := meshPlaysUptoRow, standIns := [], harness := (true, "06e2ff7fa5f780746469a634a6486a614c10382a9190a2b2285b93eee4c741e4"), looks := true }, kinds := [], alts := [], laidByText := true, laidKinds := [.data], laidTests := true, laidLooks := .later }
def MeshPlaysUptoCardSaid : Prop := Claim7.holds Tryz.pinned (.plain (OpenSpec.upto meshPlaysSpec)) meshPlaysUptoCard

/-- THE SECOND FORM's CARD OF 'trivetlaw15.MeshNames'. -/
def meshNamesUptoCard : Claim7 := { stood := { row := meshNamesUptoRow, standIns := [], harness := (true, "06e2ff7fa5f780746469a634a6486a614c10382a9190a2b2285b93eee4c741e4"), looks := true }, kinds := [], alts := [], laidByText := true, laidKinds := [.data], laidTests := true, laidLooks := .later }
def MeshNamesUptoCardSaid : Prop := Claim7.holds Tryz.pinned (.plain (OpenSpec.upto meshNamesSpec)) meshNamesUptoCard
end Rows
end Go.Proofs.YthookkmgmholcaaGreatDoor
