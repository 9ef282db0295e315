/-
  DERIVED. GIVEN WITH THE SEED: THE CARDS: each row of YtdoaniccefdkaaaGreatDoorRows.lean that lists a variable, with what it lists TIED to the program's text (the seventh form; the later family's looks); each row that meets fmt, with fmt's text TOLD by the authors' own Lean function (tested against real Go, not proved from fmt's source: count such statements apart). THE CARD IS WHAT COUNTS. Prove the row's statement (the work); the ties are given (YtdoaniccefdkaaaGreatDoorTie.lean); close each card by the builder's one call (the guide's Derived/Test/ToyasCard.lean, 'card_holds'). Laid BY PROGRAM, IN A SANDBOX (cutbox-door.mjs). By AI agents, Wed Nov 11 2026. No macro, syntax, notation, axiom, sorry.
-/
import Derived.Test.YtdoaniccefdkaaaGreatDoorRows
import GoSem.ClaimSeven
namespace Go.Proofs.YtdoaniccefdkaaaGreatDoor
namespace Rows

/-- THE TIED CARD OF 'trivetlaw17.FlipBack'. -/
def flipBackCard : Claim7 := { stood := { row := flipBackRow, standIns := [], harness := (true, "2876c414a54528a33f1b5ce3c57f2e22c4e1df3a2a294b6632337a1d692fa02c"), looks := true }, kinds := [], alts := [], laidByText := true, laidKinds := [.data], laidTests := true, laidLooks := .later }
def FlipBackCardSaid : Prop := Claim7.holds Tryz.pinned (.plain (OpenSpec.ofChange flipBackSpec)) flipBackCard

/-- THE TIED CARD OF 'trivetlaw15.MeshOf'. -/
def meshOfCard : Claim7 := { stood := { row := meshOfRow, standIns := [], harness := (true, "2876c414a54528a33f1b5ce3c57f2e22c4e1df3a2a294b6632337a1d692fa02c"), looks := true }, kinds := [], alts := [], laidByText := true, laidKinds := [.data], laidTests := true, laidLooks := .later }
def MeshOfCardSaid : Prop := Claim7.holds Tryz.pinned (.plain (OpenSpec.ofChange meshOfSpec)) meshOfCard

/-- THE TIED CARD OF 'trivetlaw15.MeshPlays'. -/
def meshPlaysCard : Claim7 := { stood := { row := meshPlaysRow, standIns := [], harness := (true, "2876c414a54528a33f1b5ce3c57f2e22c4e1df3a2a294b6632337a1d692fa02c"), looks := true }, kinds := [], alts := [], laidByText := true, laidKinds := [.data], laidTests := true, laidLooks := .later }
def MeshPlaysCardSaid : Prop := Claim7.holds Tryz.pinned (.plain (OpenSpec.ofChange meshPlaysSpec)) meshPlaysCard

/-- THE TIED CARD OF 'trivetlaw29.FactsNames'. -/
def factsNamesCard : Claim7 := { stood := { row := factsNamesRow, standIns := [], harness := (true, "2876c414a54528a33f1b5ce3c57f2e22c4e1df3a2a294b6632337a1d692fa02c"), looks := true }, kinds := [], alts := [], laidByText := true, laidKinds := [.data], laidTests := true, laidLooks := .later }
def FactsNamesCardSaid : Prop := Claim7.holds Tryz.pinned (.plain (OpenSpec.ofChange factsNamesSpec)) factsNamesCard

/-- THE TIED CARD OF 'trivetlaw29.FactsBoth'. -/
def factsBothCard : Claim7 := { stood := { row := factsBothRow, standIns := [], harness := (true, "2876c414a54528a33f1b5ce3c57f2e22c4e1df3a2a294b6632337a1d692fa02c"), looks := true }, kinds := [], alts := [], laidByText := true, laidKinds := [.data], laidTests := true, laidLooks := .later }
def FactsBothCardSaid : Prop := Claim7.holds Tryz.pinned (.plain (OpenSpec.ofChange factsBothSpec)) factsBothCard

/-- THE TIED CARD OF 'trivetlaw29.FactsMiddles'. -/
def factsMiddlesCard : Claim7 := { stood := { row := factsMiddlesRow, standIns := [], harness := (true, "2876c414a54528a33f1b5ce3c57f2e22c4e1df3a2a294b6632337a1d692fa02c"), looks := true }, kinds := [], alts := [], laidByText := true, laidKinds := [.data], laidTests := true, laidLooks := .later }
def FactsMiddlesCardSaid : Prop := Claim7.holds Tryz.pinned (.plain (OpenSpec.ofChange factsMiddlesSpec)) factsMiddlesCard

/-- THE TIED CARD OF 'trivetlaw16.WalkFinds'. -/
def walkFindsCard : Claim7 := { stood := { row := walkFindsRow, standIns := [], harness := (true, "2876c414a54528a33f1b5ce3c57f2e22c4e1df3a2a294b6632337a1d692fa02c"), looks := true }, kinds := [], alts := [], laidByText := true, laidKinds := [.data], laidTests := true, laidLooks := .later }
def WalkFindsCardSaid : Prop := Claim7.holds Tryz.pinned (.plain (OpenSpec.ofChange walkFindsSpec)) walkFindsCard

/-- THE TIED CARD OF 'trivetlaw16.WalkNames'. -/
def walkNamesCard : Claim7 := { stood := { row := walkNamesRow, standIns := [], harness := (true, "2876c414a54528a33f1b5ce3c57f2e22c4e1df3a2a294b6632337a1d692fa02c"), looks := true }, kinds := [], alts := [], laidByText := true, laidKinds := [.data], laidTests := true, laidLooks := .later }
def WalkNamesCardSaid : Prop := Claim7.holds Tryz.pinned (.plain (OpenSpec.ofChange walkNamesSpec)) walkNamesCard

/-- THE TIED CARD OF 'trivetlaw16.WalkSeeds'. -/
def walkSeedsCard : Claim7 := { stood := { row := walkSeedsRow, standIns := [], harness := (true, "2876c414a54528a33f1b5ce3c57f2e22c4e1df3a2a294b6632337a1d692fa02c"), looks := true }, kinds := [], alts := [], laidByText := true, laidKinds := [.data], laidTests := true, laidLooks := .later }
def WalkSeedsCardSaid : Prop := Claim7.holds Tryz.pinned (.plain (OpenSpec.ofChange walkSeedsSpec)) walkSeedsCard

/-- THE TIED CARD OF 'trivetlaw16.WalkFound'. -/
def walkFoundCard : Claim7 := { stood := { row := walkFoundRow, standIns := [], harness := (true, "2876c414a54528a33f1b5ce3c57f2e22c4e1df3a2a294b6632337a1d692fa02c"), looks := true }, kinds := [], alts := [], laidByText := true, laidKinds := [.data], laidTests := true, laidLooks := .later }
def WalkFoundCardSaid : Prop := Claim7.holds Tryz.pinned (.plain (OpenSpec.ofChange walkFoundSpec)) walkFoundCard

/-- THE TIED CARD OF 'trivetlaw16.WalkBoth'. -/
def walkBothCard : Claim7 := { stood := { row := walkBothRow, standIns := [], harness := (true, "2876c414a54528a33f1b5ce3c57f2e22c4e1df3a2a294b6632337a1d692fa02c"), looks := true }, kinds := [], alts := [], laidByText := true, laidKinds := [.data], laidTests := true, laidLooks := .later }
def WalkBothCardSaid : Prop := Claim7.holds Tryz.pinned (.plain (OpenSpec.ofChange walkBothSpec)) walkBothCard

/-- THE TIED CARD OF 'trivetlaw19.RemoveNames'. -/
def removeNamesCard : Claim7 := { stood := { row := removeNamesRow, standIns := [], harness := (true, "2876c414a54528a33f1b5ce3c57f2e22c4e1df3a2a294b6632337a1d692fa02c"), looks := true }, kinds := [], alts := [], laidByText := true, laidKinds := [.data], laidTests := true, laidLooks := .later }
def RemoveNamesCardSaid : Prop := Claim7.holds Tryz.pinned (.plain (OpenSpec.ofChange removeNamesSpec)) removeNamesCard

/-- THE SECOND FORM's CARD OF 'trivetlaw17.FlipBack'. -/
def flipBackUptoCard : Claim7 := { stood := { row := flipBackUptoRow, standIns := [], harness := (true, "2876c414a54528a33f1b5ce3c57f2e22c4e1df3a2a294b6632337a1d692fa02c"), looks := true }, kinds := [], alts := [], laidByText := true, laidKinds := [.data], laidTests := true, laidLooks := .later }
def FlipBackUptoCardSaid : Prop := Claim7.holds Tryz.pinned (.plain (OpenSpec.upto flipBackSpec)) flipBackUptoCard

/-- THE SECOND FORM's CARD OF 'trivetlaw15.MeshOf'. -/
def meshOfUptoCard : Claim7 := { stood := { row := meshOfUptoRow, standIns := [], harness := (true, "2876c414a54528a33f1b5ce3c57f2e22c4e1df3a2a294b6632337a1d692fa02c"), looks := true }, kinds := [], alts := [], laidByText := true, laidKinds := [.data], laidTests := true, laidLooks := .later }
def MeshOfUptoCardSaid : Prop := Claim7.holds Tryz.pinned (.plain (OpenSpec.upto meshOfSpec)) meshOfUptoCard

/-- THE SECOND FORM's CARD OF 'trivetlaw15.MeshPlays'. -/
def meshPlaysUptoCard : Claim7 := { stood := { row := meshPlaysUptoRow, standIns := [], harness := (true, "2876c414a54528a33f1b5ce3c57f2e22c4e1df3a2a294b6632337a1d692fa02c"), looks := true }, kinds := [], alts := [], laidByText := true, laidKinds := [.data], laidTests := true, laidLooks := .later }
def MeshPlaysUptoCardSaid : Prop := Claim7.holds Tryz.pinned (.plain (OpenSpec.upto meshPlaysSpec)) meshPlaysUptoCard

/-- THE SECOND FORM's CARD OF 'trivetlaw29.FactsNames'. -/
def factsNamesUptoCard : Claim7 := { stood := { row := factsNamesUptoRow, standIns := [], harness := (true, "2876c414a54528a33f1b5ce3c57f2e22c4e1df3a2a294b6632337a1d692fa02c"), looks := true }, kinds := [], alts := [], laidByText := true, laidKinds := [.data], laidTests := true, laidLooks := .later }
def FactsNamesUptoCardSaid : Prop := Claim7.holds Tryz.pinned (.plain (OpenSpec.upto factsNamesSpec)) factsNamesUptoCard

/-- THE SECOND FORM's CARD OF 'trivetlaw29.FactsBoth'. -/
def factsBothUptoCard : Claim7 := { stood := { row := factsBothUptoRow, standIns := [], harness := (true, "2876c414a54528a33f1b5ce3c57f2e22c4e1df3a2a294b6632337a1d692fa02c"), looks := true }, kinds := [], alts := [], laidByText := true, laidKinds := [.data], laidTests := true, laidLooks := .later }
def FactsBothUptoCardSaid : Prop := Claim7.holds Tryz.pinned (.plain (OpenSpec.upto factsBothSpec)) factsBothUptoCard

/-- THE SECOND FORM's CARD OF 'trivetlaw29.FactsMiddles'. -/
def factsMiddlesUptoCard : Claim7 := { stood := { row := factsMiddlesUptoRow, standIns := [], harness := (true, "2876c414a54528a33f1b5ce3c57f2e22c4e1df3a2a294b6632337a1d692fa02c"), looks := true }, kinds := [], alts := [], laidByText := true, laidKinds := [.data], laidTests := true, laidLooks := .later }
def FactsMiddlesUptoCardSaid : Prop := Claim7.holds Tryz.pinned (.plain (OpenSpec.upto factsMiddlesSpec)) factsMiddlesUptoCard

/-- THE SECOND FORM's CARD OF 'trivetlaw16.WalkFinds'. -/
def walkFindsUptoCard : Claim7 := { stood := { row := walkFindsUptoRow, standIns := [], harness := (true, "2876c414a54528a33f1b5ce3c57f2e22c4e1df3a2a294b6632337a1d692fa02c"), looks := true }, kinds := [], alts := [], laidByText := true, laidKinds := [.data], laidTests := true, laidLooks := .later }
def WalkFindsUptoCardSaid : Prop := Claim7.holds Tryz.pinned (.plain (OpenSpec.upto walkFindsSpec)) walkFindsUptoCard

/-- THE SECOND FORM's CARD OF 'trivetlaw16.WalkNames'. -/
def walkNamesUptoCard : Claim7 := { stood := { row := walkNamesUptoRow, standIns := [], harness := (true, "2876c414a54528a33f1b5ce3c57f2e22c4e1df3a2a294b6632337a1d692fa02c"), looks := true }, kinds := [], alts := [], laidByText := true, laidKinds := [.data], laidTests := true, laidLooks := .later }
def WalkNamesUptoCardSaid : Prop := Claim7.holds Tryz.pinned (.plain (OpenSpec.upto walkNamesSpec)) walkNamesUptoCard

/-- THE SECOND FORM's CARD OF 'trivetlaw16.WalkSeeds'. -/
def walkSeedsUptoCard : Claim7 := { stood := { row := walkSeedsUptoRow, standIns := [], harness := (true, "2876c414a54528a33f1b5ce3c57f2e22c4e1df3a2a294b6632337a1d692fa02c"), looks := true }, kinds := [], alts := [], laidByText := true, laidKinds := [.data], laidTests := true, laidLooks := .later }
def WalkSeedsUptoCardSaid : Prop := Claim7.holds Tryz.pinned (.plain (OpenSpec.upto walkSeedsSpec)) walkSeedsUptoCard

/-- THE SECOND FORM's CARD OF 'trivetlaw16.WalkFound'. -/
def walkFoundUptoCard : Claim7 := { stood := { row := walkFoundUptoRow, standIns := [], harness := (true, "2876c414a54528a33f1b5ce3c57f2e22c4e1df3a2a294b6632337a1d692fa02c"), looks := true }, kinds := [], alts := [], laidByText := true, laidKinds := [.data], laidTests := true, laidLooks := .later }
def WalkFoundUptoCardSaid : Prop := Claim7.holds Tryz.pinned (.plain (OpenSpec.upto walkFoundSpec)) walkFoundUptoCard

/-- THE SECOND FORM's CARD OF 'trivetlaw16.WalkBoth'. -/
def walkBothUptoCard : Claim7 := { stood := { row := walkBothUptoRow, standIns := [], harness := (true, "2876c414a54528a33f1b5ce3c57f2e22c4e1df3a2a294b6632337a1d692fa02c"), looks := true }, kinds := [], alts := [], laidByText := true, laidKinds := [.data], laidTests := true, laidLooks := .later }
def WalkBothUptoCardSaid : Prop := Claim7.holds Tryz.pinned (.plain (OpenSpec.upto walkBothSpec)) walkBothUptoCard

/-- THE SECOND FORM's CARD OF 'trivetlaw19.RemoveNames'. -/
def removeNamesUptoCard : Claim7 := { stood := { row := removeNamesUptoRow, standIns := [], harness := (true, "2876c414a54528a33f1b5ce3c57f2e22c4e1df3a2a294b6632337a1d692fa02c"), looks := true }, kinds := [], alts := [], laidByText := true, laidKinds := [.data], laidTests := true, laidLooks := .later }
def RemoveNamesUptoCardSaid : Prop := Claim7.holds Tryz.pinned (.plain (OpenSpec.upto removeNamesSpec)) removeNamesUptoCard
end Rows
end Go.Proofs.YtdoaniccefdkaaaGreatDoor
