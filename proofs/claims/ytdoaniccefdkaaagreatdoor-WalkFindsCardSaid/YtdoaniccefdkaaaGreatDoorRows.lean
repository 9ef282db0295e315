/-
  NARROWER THAN 'FOR EVERY INPUT', by the rows' own cells (each row's printed sentence says how): FlipBack: laid · MeshOf: laid · MeshPlays: laid · FactsNames: laid · FactsBoth: laid · FactsMiddles: laid · WalkFinds: laid · WalkNames: laid · WalkSeeds: laid · WalkFound: laid · WalkBoth: laid · RemoveNames: laid.
  DERIVED. THE GIVEN ROWS OF THIS SEAT. 12 by the template 'for every input the law returns true; each argument reads behind the call as it read before'; 0 by the template 'total and deterministic' (their statements: YtdoaniccefdkaaaGreatDoorTotals.lean).
  GIVEN WITH THE SEED: the statements are not yours to turn. If you find one false, say at which input.
  Laid BY PROGRAM, IN A SANDBOX (cutbox-rows.mjs): the forced cells as the released guide's own fill.sh prints them over the translation 959d9a88ea37af78… (all of the seat's roots in one cut). By AI agents, Wed Nov 11 2026. No macro, syntax, notation, axiom, sorry.
-/
import Derived.Test.YtdoaniccefdkaaaGreatDoorChecked
import GoSem.Claim
import GoSem.ClaimJoined
import GoSem.ClaimMapViews
import Derived.JoinedTies
import Derived.KernelRfl
namespace Go.Proofs.YtdoaniccefdkaaaGreatDoor
/- THE CELL 'sum', in the pinned program and in every row, IS THE sha256 OF THE DUMP (.gsa) THAT YtdoaniccefdkaaaGreatDoorProg.lean LOADS. Nothing in Lean hashes anything: it is a label: what it is worth is what the hold of that sum in a sandbox is worth. -/
noncomputable def Tryz.pinned : Pinned := { name := "ytdoaniccefdkaaagreatdoor", sum := "959d9a88ea37af78d4447510859fa4ecb38b09eeeddbdd4d689fbd7bed36fff2", checked := Tryz.checked }
namespace Rows
def none {H : Type} : Left H := { results := [], args := [] }

/- WHAT THE LISTED PACKAGE-LEVEL VARIABLES READ AS WHEN THE CALL BEGINS. Each datum BY PROGRAM (the guide's laid-datum.mjs) off the statement by which the dump's own 'gosem.cut.vars' lays the variable. In a bare row this is a premise. The card (YtdoaniccefdkaaaGreatDoorCards.lean) ties it to the program's text. -/
def laid_math_bits_deBruijn32tab {H : Type} : DataW H := .agg [.lit (.int .u8 0), .lit (.int .u8 1), .lit (.int .u8 28), .lit (.int .u8 2), .lit (.int .u8 29), .lit (.int .u8 14), .lit (.int .u8 24), .lit (.int .u8 3), .lit (.int .u8 30), .lit (.int .u8 22), .lit (.int .u8 20), .lit (.int .u8 15), .lit (.int .u8 25), .lit (.int .u8 17), .lit (.int .u8 4), .lit (.int .u8 8), .lit (.int .u8 31), .lit (.int .u8 27), .lit (.int .u8 13), .lit (.int .u8 23), .lit (.int .u8 21), .lit (.int .u8 19), .lit (.int .u8 16), .lit (.int .u8 7), .lit (.int .u8 26), .lit (.int .u8 12), .lit (.int .u8 18), .lit (.int .u8 6), .lit (.int .u8 11), .lit (.int .u8 5), .lit (.int .u8 10), .lit (.int .u8 9)]

/-- 'trivetlaw17.FlipBack': WHATEVER THE INPUT: true; the input reads as it did. -/
def flipBackSpec : ChangeSpec := { name := "flipBack", fn := fun _ => fun
  | [d1, d2, d3] => { results := [.lit (.bool true)], args := [d1, d2, d3] }
  | _ => none }
def flipBackRow : OpenClaim := { program := "ytdoaniccefdkaaagreatdoor", sum := "959d9a88ea37af78d4447510859fa4ecb38b09eeeddbdd4d689fbd7bed36fff2", func := "trivet/trivetlaw17.FlipBack", spec := "flipBack", inPlace := ["math.Float64bits", "math.Float64frombits", "math.archTrunc"], unfollowed := true, recurses := true, named := ["math/bits.deBruijn32tab"], plainKeys := false, apart := false, laid := [("math/bits.deBruijn32tab", laid_math_bits_deBruijn32tab)] }
def FlipBackSaid : Prop := flipBackRow.holds Tryz.pinned (OpenSpec.ofChange flipBackSpec)

/-- ITS FALSE NEIGHBOUR: 'it returns false'. Refute it at one input. -/
def flipBackWrong : ChangeSpec := { name := "flipBack", fn := fun _ => fun
  | [d1, d2, d3] => { results := [.lit (.bool false)], args := [d1, d2, d3] }
  | _ => none }
def FlipBackWrongFalsely : Prop := flipBackRow.holds Tryz.pinned (OpenSpec.ofChange flipBackWrong)

/-- 'trivetlaw15.MeshOf': WHATEVER THE INPUT: true; the input reads as it did. -/
def meshOfSpec : ChangeSpec := { name := "meshOf", fn := fun _ => fun
  | [d1, d2] => { results := [.lit (.bool true)], args := [d1, d2] }
  | _ => none }
def meshOfRow : OpenClaim := { program := "ytdoaniccefdkaaagreatdoor", sum := "959d9a88ea37af78d4447510859fa4ecb38b09eeeddbdd4d689fbd7bed36fff2", func := "trivet/trivetlaw15.MeshOf", spec := "meshOf", inPlace := ["math.Float64bits", "math.Float64frombits", "math.archTrunc"], unfollowed := true, recurses := true, named := ["math/bits.deBruijn32tab"], plainKeys := false, apart := false, laid := [("math/bits.deBruijn32tab", laid_math_bits_deBruijn32tab)] }
def MeshOfSaid : Prop := meshOfRow.holds Tryz.pinned (OpenSpec.ofChange meshOfSpec)

/-- ITS FALSE NEIGHBOUR: 'it returns false'. Refute it at one input. -/
def meshOfWrong : ChangeSpec := { name := "meshOf", fn := fun _ => fun
  | [d1, d2] => { results := [.lit (.bool false)], args := [d1, d2] }
  | _ => none }
def MeshOfWrongFalsely : Prop := meshOfRow.holds Tryz.pinned (OpenSpec.ofChange meshOfWrong)

/-- 'trivetlaw15.MeshPlays': WHATEVER THE INPUT: true; the input reads as it did. -/
def meshPlaysSpec : ChangeSpec := { name := "meshPlays", fn := fun _ => fun
  | [d1, d2] => { results := [.lit (.bool true)], args := [d1, d2] }
  | _ => none }
def meshPlaysRow : OpenClaim := { program := "ytdoaniccefdkaaagreatdoor", sum := "959d9a88ea37af78d4447510859fa4ecb38b09eeeddbdd4d689fbd7bed36fff2", func := "trivet/trivetlaw15.MeshPlays", spec := "meshPlays", inPlace := ["math.Float64bits", "math.Float64frombits", "math.archTrunc", "maps.clone"], unfollowed := true, recurses := true, named := ["math/bits.deBruijn32tab"], plainKeys := false, apart := false, laid := [("math/bits.deBruijn32tab", laid_math_bits_deBruijn32tab)] }
def MeshPlaysSaid : Prop := meshPlaysRow.holds Tryz.pinned (OpenSpec.ofChange meshPlaysSpec)

/-- ITS FALSE NEIGHBOUR: 'it returns false'. Refute it at one input. -/
def meshPlaysWrong : ChangeSpec := { name := "meshPlays", fn := fun _ => fun
  | [d1, d2] => { results := [.lit (.bool false)], args := [d1, d2] }
  | _ => none }
def MeshPlaysWrongFalsely : Prop := meshPlaysRow.holds Tryz.pinned (OpenSpec.ofChange meshPlaysWrong)

/-- 'trivetlaw29.FactsNames': WHATEVER THE INPUT: true; the input reads as it did. -/
def factsNamesSpec : ChangeSpec := { name := "factsNames", fn := fun _ => fun
  | [] => { results := [.lit (.bool true)], args := [] }
  | _ => none }
def factsNamesRow : OpenClaim := { program := "ytdoaniccefdkaaagreatdoor", sum := "959d9a88ea37af78d4447510859fa4ecb38b09eeeddbdd4d689fbd7bed36fff2", func := "trivet/trivetlaw29.FactsNames", spec := "factsNames", inPlace := ["math.Float64bits", "math.Float64frombits", "math.archTrunc"], unfollowed := true, recurses := true, named := ["math/bits.deBruijn32tab"], plainKeys := false, apart := false, laid := [("math/bits.deBruijn32tab", laid_math_bits_deBruijn32tab)] }
def FactsNamesSaid : Prop := factsNamesRow.holds Tryz.pinned (OpenSpec.ofChange factsNamesSpec)

/-- ITS FALSE NEIGHBOUR: 'it returns false'. Refute it at one input. -/
def factsNamesWrong : ChangeSpec := { name := "factsNames", fn := fun _ => fun
  | [] => { results := [.lit (.bool false)], args := [] }
  | _ => none }
def FactsNamesWrongFalsely : Prop := factsNamesRow.holds Tryz.pinned (OpenSpec.ofChange factsNamesWrong)

/-- 'trivetlaw29.FactsBoth': WHATEVER THE INPUT: true; the input reads as it did. -/
def factsBothSpec : ChangeSpec := { name := "factsBoth", fn := fun _ => fun
  | [d] => { results := [.lit (.bool true)], args := [d] }
  | _ => none }
def factsBothRow : OpenClaim := { program := "ytdoaniccefdkaaagreatdoor", sum := "959d9a88ea37af78d4447510859fa4ecb38b09eeeddbdd4d689fbd7bed36fff2", func := "trivet/trivetlaw29.FactsBoth", spec := "factsBoth", inPlace := ["math.Float64bits", "math.Float64frombits", "math.archTrunc"], unfollowed := true, recurses := true, named := ["math/bits.deBruijn32tab"], plainKeys := false, apart := false, laid := [("math/bits.deBruijn32tab", laid_math_bits_deBruijn32tab)] }
def FactsBothSaid : Prop := factsBothRow.holds Tryz.pinned (OpenSpec.ofChange factsBothSpec)

/-- ITS FALSE NEIGHBOUR: 'it returns false'. Refute it at one input. -/
def factsBothWrong : ChangeSpec := { name := "factsBoth", fn := fun _ => fun
  | [d] => { results := [.lit (.bool false)], args := [d] }
  | _ => none }
def FactsBothWrongFalsely : Prop := factsBothRow.holds Tryz.pinned (OpenSpec.ofChange factsBothWrong)

/-- 'trivetlaw29.FactsMiddles': WHATEVER THE INPUT: true; the input reads as it did. -/
def factsMiddlesSpec : ChangeSpec := { name := "factsMiddles", fn := fun _ => fun
  | [d] => { results := [.lit (.bool true)], args := [d] }
  | _ => none }
def factsMiddlesRow : OpenClaim := { program := "ytdoaniccefdkaaagreatdoor", sum := "959d9a88ea37af78d4447510859fa4ecb38b09eeeddbdd4d689fbd7bed36fff2", func := "trivet/trivetlaw29.FactsMiddles", spec := "factsMiddles", inPlace := ["math.Float64bits", "math.Float64frombits", "math.archTrunc"], unfollowed := true, recurses := true, named := ["math/bits.deBruijn32tab"], plainKeys := false, apart := false, laid := [("math/bits.deBruijn32tab", laid_math_bits_deBruijn32tab)] }
def FactsMiddlesSaid : Prop := factsMiddlesRow.holds Tryz.pinned (OpenSpec.ofChange factsMiddlesSpec)

/-- ITS FALSE NEIGHBOUR: 'it returns false'. Refute it at one input. -/
def factsMiddlesWrong : ChangeSpec := { name := "factsMiddles", fn := fun _ => fun
  | [d] => { results := [.lit (.bool false)], args := [d] }
  | _ => none }
def FactsMiddlesWrongFalsely : Prop := factsMiddlesRow.holds Tryz.pinned (OpenSpec.ofChange factsMiddlesWrong)

/-- 'trivetlaw16.WalkFinds': WHATEVER THE INPUT: true; the input reads as it did. -/
def walkFindsSpec : ChangeSpec := { name := "walkFinds", fn := fun _ => fun
  | [d1, d2, d3, d4] => { results := [.lit (.bool true)], args := [d1, d2, d3, d4] }
  | _ => none }
def walkFindsRow : OpenClaim := { program := "ytdoaniccefdkaaagreatdoor", sum := "959d9a88ea37af78d4447510859fa4ecb38b09eeeddbdd4d689fbd7bed36fff2", func := "trivet/trivetlaw16.WalkFinds", spec := "walkFinds", inPlace := ["math.Float64bits", "math.Float64frombits", "math.archTrunc"], unfollowed := true, recurses := true, named := ["math/bits.deBruijn32tab"], plainKeys := false, apart := false, laid := [("math/bits.deBruijn32tab", laid_math_bits_deBruijn32tab)] }
def WalkFindsSaid : Prop := walkFindsRow.holds Tryz.pinned (OpenSpec.ofChange walkFindsSpec)

/-- ITS FALSE NEIGHBOUR: 'it returns false'. Refute it at one input. -/
def walkFindsWrong : ChangeSpec := { name := "walkFinds", fn := fun _ => fun
  | [d1, d2, d3, d4] => { results := [.lit (.bool false)], args := [d1, d2, d3, d4] }
  | _ => none }
def WalkFindsWrongFalsely : Prop := walkFindsRow.holds Tryz.pinned (OpenSpec.ofChange walkFindsWrong)

/-- 'trivetlaw16.WalkNames': WHATEVER THE INPUT: true; the input reads as it did. -/
def walkNamesSpec : ChangeSpec := { name := "walkNames", fn := fun _ => fun
  | [] => { results := [.lit (.bool true)], args := [] }
  | _ => none }
def walkNamesRow : OpenClaim := { program := "ytdoaniccefdkaaagreatdoor", sum := "959d9a88ea37af78d4447510859fa4ecb38b09eeeddbdd4d689fbd7bed36fff2", func := "trivet/trivetlaw16.WalkNames", spec := "walkNames", inPlace := ["math.Float64bits", "math.Float64frombits", "math.archTrunc"], unfollowed := true, recurses := true, named := ["math/bits.deBruijn32tab"], plainKeys := false, apart := false, laid := [("math/bits.deBruijn32tab", laid_math_bits_deBruijn32tab)] }
def WalkNamesSaid : Prop := walkNamesRow.holds Tryz.pinned (OpenSpec.ofChange walkNamesSpec)

/-- ITS FALSE NEIGHBOUR: 'it returns false'. Refute it at one input. -/
def walkNamesWrong : ChangeSpec := { name := "walkNames", fn := fun _ => fun
  | [] => { results := [.lit (.bool false)], args := [] }
  | _ => none }
def WalkNamesWrongFalsely : Prop := walkNamesRow.holds Tryz.pinned (OpenSpec.ofChange walkNamesWrong)

/-- 'trivetlaw16.WalkSeeds': WHATEVER THE INPUT: true; the input reads as it did. -/
def walkSeedsSpec : ChangeSpec := { name := "walkSeeds", fn := fun _ => fun
  | [d1, d2, d3, d4, d5] => { results := [.lit (.bool true)], args := [d1, d2, d3, d4, d5] }
  | _ => none }
def walkSeedsRow : OpenClaim := { program := "ytdoaniccefdkaaagreatdoor", sum := "959d9a88ea37af78d4447510859fa4ecb38b09eeeddbdd4d689fbd7bed36fff2", func := "trivet/trivetlaw16.WalkSeeds", spec := "walkSeeds", inPlace := ["math.Float64bits", "math.Float64frombits", "math.archTrunc"], unfollowed := true, recurses := true, named := ["math/bits.deBruijn32tab"], plainKeys := false, apart := false, laid := [("math/bits.deBruijn32tab", laid_math_bits_deBruijn32tab)] }
def WalkSeedsSaid : Prop := walkSeedsRow.holds Tryz.pinned (OpenSpec.ofChange walkSeedsSpec)

/-- ITS FALSE NEIGHBOUR: 'it returns false'. Refute it at one input. -/
def walkSeedsWrong : ChangeSpec := { name := "walkSeeds", fn := fun _ => fun
  | [d1, d2, d3, d4, d5] => { results := [.lit (.bool false)], args := [d1, d2, d3, d4, d5] }
  | _ => none }
def WalkSeedsWrongFalsely : Prop := walkSeedsRow.holds Tryz.pinned (OpenSpec.ofChange walkSeedsWrong)

/-- 'trivetlaw16.WalkFound': WHATEVER THE INPUT: true; the input reads as it did. -/
def walkFoundSpec : ChangeSpec := { name := "walkFound", fn := fun _ => fun
  | [d1, d2, d3] => { results := [.lit (.bool true)], args := [d1, d2, d3] }
  | _ => none }
def walkFoundRow : OpenClaim := { program := "ytdoaniccefdkaaagreatdoor", sum := "959d9a88ea37af78d4447510859fa4ecb38b09eeeddbdd4d689fbd7bed36fff2", func := "trivet/trivetlaw16.WalkFound", spec := "walkFound", inPlace := ["math.Float64bits", "math.Float64frombits", "math.archTrunc"], unfollowed := true, recurses := true, named := ["math/bits.deBruijn32tab"], plainKeys := false, apart := false, laid := [("math/bits.deBruijn32tab", laid_math_bits_deBruijn32tab)] }
def WalkFoundSaid : Prop := walkFoundRow.holds Tryz.pinned (OpenSpec.ofChange walkFoundSpec)

/-- ITS FALSE NEIGHBOUR: 'it returns false'. Refute it at one input. -/
def walkFoundWrong : ChangeSpec := { name := "walkFound", fn := fun _ => fun
  | [d1, d2, d3] => { results := [.lit (.bool false)], args := [d1, d2, d3] }
  | _ => none }
def WalkFoundWrongFalsely : Prop := walkFoundRow.holds Tryz.pinned (OpenSpec.ofChange walkFoundWrong)

/-- 'trivetlaw16.WalkBoth': WHATEVER THE INPUT: true; the input reads as it did. -/
def walkBothSpec : ChangeSpec := { name := "walkBoth", fn := fun _ => fun
  | [d1, d2, d3, d4] => { results := [.lit (.bool true)], args := [d1, d2, d3, d4] }
  | _ => none }
def walkBothRow : OpenClaim := { program := "ytdoaniccefdkaaagreatdoor", sum := "959d9a88ea37af78d4447510859fa4ecb38b09eeeddbdd4d689fbd7bed36fff2", func := "trivet/trivetlaw16.WalkBoth", spec := "walkBoth", inPlace := ["math.Float64bits", "math.Float64frombits", "math.archTrunc"], unfollowed := true, recurses := true, named := ["math/bits.deBruijn32tab"], plainKeys := false, apart := false, laid := [("math/bits.deBruijn32tab", laid_math_bits_deBruijn32tab)] }
def WalkBothSaid : Prop := walkBothRow.holds Tryz.pinned (OpenSpec.ofChange walkBothSpec)

/-- ITS FALSE NEIGHBOUR: 'it returns false'. Refute it at one input. -/
def walkBothWrong : ChangeSpec := { name := "walkBoth", fn := fun _ => fun
  | [d1, d2, d3, d4] => { results := [.lit (.bool false)], args := [d1, d2, d3, d4] }
  | _ => none }
def WalkBothWrongFalsely : Prop := walkBothRow.holds Tryz.pinned (OpenSpec.ofChange walkBothWrong)

/-- 'trivetlaw19.RemoveNames': WHATEVER THE INPUT: true; the input reads as it did. -/
def removeNamesSpec : ChangeSpec := { name := "removeNames", fn := fun _ => fun
  | [] => { results := [.lit (.bool true)], args := [] }
  | _ => none }
def removeNamesRow : OpenClaim := { program := "ytdoaniccefdkaaagreatdoor", sum := "959d9a88ea37af78d4447510859fa4ecb38b09eeeddbdd4d689fbd7bed36fff2", func := "trivet/trivetlaw19.RemoveNames", spec := "removeNames", inPlace := ["math.Float64bits", "math.Float64frombits", "math.archTrunc"], unfollowed := true, recurses := true, named := ["math/bits.deBruijn32tab"], plainKeys := false, apart := false, laid := [("math/bits.deBruijn32tab", laid_math_bits_deBruijn32tab)] }
def RemoveNamesSaid : Prop := removeNamesRow.holds Tryz.pinned (OpenSpec.ofChange removeNamesSpec)

/-- ITS FALSE NEIGHBOUR: 'it returns false'. Refute it at one input. -/
def removeNamesWrong : ChangeSpec := { name := "removeNames", fn := fun _ => fun
  | [] => { results := [.lit (.bool false)], args := [] }
  | _ => none }
def RemoveNamesWrongFalsely : Prop := removeNamesRow.holds Tryz.pinned (OpenSpec.ofChange removeNamesWrong)

/- THE SECOND FORM. 'bulk': how many values and letters a reading holds, each counted each time it is reached (what is shared counts as often as it is met; a slice's spare places count too). A statement '..UptoSaid' is the law's where the arguments, and the package variables that the reading takes, are together of bulk at most 1048576: NARROWER than '..Said'. Prove '..Said' where nothing that the law and all that it calls make is longer than what came in: it says more and counts as full. Else prove '..UptoSaid'. A law counts once. -/
mutual
def uptoBulk {H : Type} : DataW H → Nat
  | .lit (.string bytes) => bytes.length + 1
  | .lit _ => 1
  | .nil => 1
  | .ptr d => uptoBulk d + 1
  | .slice elems spare => uptoBulkAll elems + uptoBulkAll spare + 1
  | .agg parts => uptoBulkAll parts + 1
  | .iface _ d => uptoBulk d + 1
  | .map entries => uptoBulkEntries entries + 1
  | .held _ => 1
def uptoBulkAll {H : Type} : List (DataW H) → Nat
  | [] => 0
  | d :: r => uptoBulk d + uptoBulkAll r
def uptoBulkEntries {H : Type} : List (Lit × DataW H) → Nat
  | [] => 0
  | x :: r => uptoBulkEntry x + uptoBulkEntries r
def uptoBulkEntry {H : Type} : Lit × DataW H → Nat
  | (.string bytes, d) => bytes.length + uptoBulk d + 1
  | (_, d) => uptoBulk d + 1
 end
def uptoSmall : (H : Type) → List (DataW H) → Bool := fun _ ds => decide (uptoBulkAll ds ≤ 1048576)
def OpenSpec.upto (s : _root_.Go.ChangeSpec) : _root_.Go.OpenSpec := { _root_.Go.OpenSpec.ofChange s with cond := some uptoSmall }

/-- 'trivetlaw17.FlipBack', WHERE WHAT IT READS IS OF BULK AT MOST 1048576: true; the input reads as it did. -/
def flipBackUptoRow : OpenClaim := { program := "ytdoaniccefdkaaagreatdoor", sum := "959d9a88ea37af78d4447510859fa4ecb38b09eeeddbdd4d689fbd7bed36fff2", func := "trivet/trivetlaw17.FlipBack", spec := "flipBack", inPlace := ["math.Float64bits", "math.Float64frombits", "math.archTrunc"], unfollowed := true, recurses := true, named := ["math/bits.deBruijn32tab"], plainKeys := false, apart := false, laid := [("math/bits.deBruijn32tab", laid_math_bits_deBruijn32tab)], narrowed := true }
def FlipBackUptoSaid : Prop := flipBackUptoRow.holds Tryz.pinned (OpenSpec.upto flipBackSpec)

/-- 'trivetlaw15.MeshOf', WHERE WHAT IT READS IS OF BULK AT MOST 1048576: true; the input reads as it did. -/
def meshOfUptoRow : OpenClaim := { program := "ytdoaniccefdkaaagreatdoor", sum := "959d9a88ea37af78d4447510859fa4ecb38b09eeeddbdd4d689fbd7bed36fff2", func := "trivet/trivetlaw15.MeshOf", spec := "meshOf", inPlace := ["math.Float64bits", "math.Float64frombits", "math.archTrunc"], unfollowed := true, recurses := true, named := ["math/bits.deBruijn32tab"], plainKeys := false, apart := false, laid := [("math/bits.deBruijn32tab", laid_math_bits_deBruijn32tab)], narrowed := true }
def MeshOfUptoSaid : Prop := meshOfUptoRow.holds Tryz.pinned (OpenSpec.upto meshOfSpec)

/-- 'trivetlaw15.MeshPlays', WHERE WHAT IT READS IS OF BULK AT MOST 1048576: true; the input reads as it did. -/
def meshPlaysUptoRow : OpenClaim := { program := "ytdoaniccefdkaaagreatdoor", sum := "959d9a88ea37af78d4447510859fa4ecb38b09eeeddbdd4d689fbd7bed36fff2", func := "trivet/trivetlaw15.MeshPlays", spec := "meshPlays", inPlace := ["math.Float64bits", "math.Float64frombits", "math.archTrunc", "maps.clone"], unfollowed := true, recurses := true, named := ["math/bits.deBruijn32tab"], plainKeys := false, apart := false, laid := [("math/bits.deBruijn32tab", laid_math_bits_deBruijn32tab)], narrowed := true }
def MeshPlaysUptoSaid : Prop := meshPlaysUptoRow.holds Tryz.pinned (OpenSpec.upto meshPlaysSpec)

/-- 'trivetlaw29.FactsNames', WHERE WHAT IT READS IS OF BULK AT MOST 1048576: true; the input reads as it did. -/
def factsNamesUptoRow : OpenClaim := { program := "ytdoaniccefdkaaagreatdoor", sum := "959d9a88ea37af78d4447510859fa4ecb38b09eeeddbdd4d689fbd7bed36fff2", func := "trivet/trivetlaw29.FactsNames", spec := "factsNames", inPlace := ["math.Float64bits", "math.Float64frombits", "math.archTrunc"], unfollowed := true, recurses := true, named := ["math/bits.deBruijn32tab"], plainKeys := false, apart := false, laid := [("math/bits.deBruijn32tab", laid_math_bits_deBruijn32tab)], narrowed := true }
def FactsNamesUptoSaid : Prop := factsNamesUptoRow.holds Tryz.pinned (OpenSpec.upto factsNamesSpec)

/-- 'trivetlaw29.FactsBoth', WHERE WHAT IT READS IS OF BULK AT MOST 1048576: true; the input reads as it did. -/
def factsBothUptoRow : OpenClaim := { program := "ytdoaniccefdkaaagreatdoor", sum := "959d9a88ea37af78d4447510859fa4ecb38b09eeeddbdd4d689fbd7bed36fff2", func := "trivet/trivetlaw29.FactsBoth", spec := "factsBoth", inPlace := ["math.Float64bits", "math.Float64frombits", "math.archTrunc"], unfollowed := true, recurses := true, named := ["math/bits.deBruijn32tab"], plainKeys := false, apart := false, laid := [("math/bits.deBruijn32tab", laid_math_bits_deBruijn32tab)], narrowed := true }
def FactsBothUptoSaid : Prop := factsBothUptoRow.holds Tryz.pinned (OpenSpec.upto factsBothSpec)

/-- 'trivetlaw29.FactsMiddles', WHERE WHAT IT READS IS OF BULK AT MOST 1048576: true; the input reads as it did. -/
def factsMiddlesUptoRow : OpenClaim := { program := "ytdoaniccefdkaaagreatdoor", sum := "959d9a88ea37af78d4447510859fa4ecb38b09eeeddbdd4d689fbd7bed36fff2", func := "trivet/trivetlaw29.FactsMiddles", spec := "factsMiddles", inPlace := ["math.Float64bits", "math.Float64frombits", "math.archTrunc"], unfollowed := true, recurses := true, named := ["math/bits.deBruijn32tab"], plainKeys := false, apart := false, laid := [("math/bits.deBruijn32tab", laid_math_bits_deBruijn32tab)], narrowed := true }
def FactsMiddlesUptoSaid : Prop := factsMiddlesUptoRow.holds Tryz.pinned (OpenSpec.upto factsMiddlesSpec)

/-- 'trivetlaw16.WalkFinds', WHERE WHAT IT READS IS OF BULK AT MOST 1048576: true; the input reads as it did. -/
def walkFindsUptoRow : OpenClaim := { program := "ytdoaniccefdkaaagreatdoor", sum := "959d9a88ea37af78d4447510859fa4ecb38b09eeeddbdd4d689fbd7bed36fff2", func := "trivet/trivetlaw16.WalkFinds", spec := "walkFinds", inPlace := ["math.Float64bits", "math.Float64frombits", "math.archTrunc"], unfollowed := true, recurses := true, named := ["math/bits.deBruijn32tab"], plainKeys := false, apart := false, laid := [("math/bits.deBruijn32tab", laid_math_bits_deBruijn32tab)], narrowed := true }
def WalkFindsUptoSaid : Prop := walkFindsUptoRow.holds Tryz.pinned (OpenSpec.upto walkFindsSpec)

/-- 'trivetlaw16.WalkNames', WHERE WHAT IT READS IS OF BULK AT MOST 1048576: true; the input reads as it did. -/
def walkNamesUptoRow : OpenClaim := { program := "ytdoaniccefdkaaagreatdoor", sum := "959d9a88ea37af78d4447510859fa4ecb38b09eeeddbdd4d689fbd7bed36fff2", func := "trivet/trivetlaw16.WalkNames", spec := "walkNames", inPlace := ["math.Float64bits", "math.Float64frombits", "math.archTrunc"], unfollowed := true, recurses := true, named := ["math/bits.deBruijn32tab"], plainKeys := false, apart := false, laid := [("math/bits.deBruijn32tab", laid_math_bits_deBruijn32tab)], narrowed := true }
def WalkNamesUptoSaid : Prop := walkNamesUptoRow.holds Tryz.pinned (OpenSpec.upto walkNamesSpec)

/-- 'trivetlaw16.WalkSeeds', WHERE WHAT IT READS IS OF BULK AT MOST 1048576: true; the input reads as it did. -/
def walkSeedsUptoRow : OpenClaim := { program := "ytdoaniccefdkaaagreatdoor", sum := "959d9a88ea37af78d4447510859fa4ecb38b09eeeddbdd4d689fbd7bed36fff2", func := "trivet/trivetlaw16.WalkSeeds", spec := "walkSeeds", inPlace := ["math.Float64bits", "math.Float64frombits", "math.archTrunc"], unfollowed := true, recurses := true, named := ["math/bits.deBruijn32tab"], plainKeys := false, apart := false, laid := [("math/bits.deBruijn32tab", laid_math_bits_deBruijn32tab)], narrowed := true }
def WalkSeedsUptoSaid : Prop := walkSeedsUptoRow.holds Tryz.pinned (OpenSpec.upto walkSeedsSpec)

/-- 'trivetlaw16.WalkFound', WHERE WHAT IT READS IS OF BULK AT MOST 1048576: true; the input reads as it did. -/
def walkFoundUptoRow : OpenClaim := { program := "ytdoaniccefdkaaagreatdoor", sum := "959d9a88ea37af78d4447510859fa4ecb38b09eeeddbdd4d689fbd7bed36fff2", func := "trivet/trivetlaw16.WalkFound", spec := "walkFound", inPlace := ["math.Float64bits", "math.Float64frombits", "math.archTrunc"], unfollowed := true, recurses := true, named := ["math/bits.deBruijn32tab"], plainKeys := false, apart := false, laid := [("math/bits.deBruijn32tab", laid_math_bits_deBruijn32tab)], narrowed := true }
def WalkFoundUptoSaid : Prop := walkFoundUptoRow.holds Tryz.pinned (OpenSpec.upto walkFoundSpec)

/-- 'trivetlaw16.WalkBoth', WHERE WHAT IT READS IS OF BULK AT MOST 1048576: true; the input reads as it did. -/
def walkBothUptoRow : OpenClaim := { program := "ytdoaniccefdkaaagreatdoor", sum := "959d9a88ea37af78d4447510859fa4ecb38b09eeeddbdd4d689fbd7bed36fff2", func := "trivet/trivetlaw16.WalkBoth", spec := "walkBoth", inPlace := ["math.Float64bits", "math.Float64frombits", "math.archTrunc"], unfollowed := true, recurses := true, named := ["math/bits.deBruijn32tab"], plainKeys := false, apart := false, laid := [("math/bits.deBruijn32tab", laid_math_bits_deBruijn32tab)], narrowed := true }
def WalkBothUptoSaid : Prop := walkBothUptoRow.holds Tryz.pinned (OpenSpec.upto walkBothSpec)

/-- 'trivetlaw19.RemoveNames', WHERE WHAT IT READS IS OF BULK AT MOST 1048576: true; the input reads as it did. -/
def removeNamesUptoRow : OpenClaim := { program := "ytdoaniccefdkaaagreatdoor", sum := "959d9a88ea37af78d4447510859fa4ecb38b09eeeddbdd4d689fbd7bed36fff2", func := "trivet/trivetlaw19.RemoveNames", spec := "removeNames", inPlace := ["math.Float64bits", "math.Float64frombits", "math.archTrunc"], unfollowed := true, recurses := true, named := ["math/bits.deBruijn32tab"], plainKeys := false, apart := false, laid := [("math/bits.deBruijn32tab", laid_math_bits_deBruijn32tab)], narrowed := true }
def RemoveNamesUptoSaid : Prop := removeNamesUptoRow.holds Tryz.pinned (OpenSpec.upto removeNamesSpec)

end Rows
end Go.Proofs.YtdoaniccefdkaaaGreatDoor
