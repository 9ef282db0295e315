/-
  NARROWER THAN 'FOR EVERY INPUT', by the rows' own cells (each row's printed sentence says how): FlipBack: laid · FlipTurns: laid · FlipSettles: laid · MeshOf: laid · MeshPlays: laid.
  DERIVED. THE GIVEN ROWS OF THIS SEAT. 5 by the template 'for every input the law returns true; each argument reads behind the call as it read before'; 0 by the template 'total and deterministic' (their statements: YtbagikgpgdlkcaaGreatDoorTotals.lean).
  GIVEN WITH THE SEED: the statements are not yours to turn. If you find one false, say at which input.
  Laid BY PROGRAM, IN A SANDBOX (cutbox-rows.mjs): the forced cells as the released guide's own fill.sh prints them over the translation 624901d34a3300d2… (all of the seat's roots in one cut). By AI agents, Wed Nov 11 2026. No macro, syntax, notation, axiom, sorry.
-/
import Derived.Test.YtbagikgpgdlkcaaGreatDoorChecked
import GoSem.Claim
import GoSem.ClaimJoined
import GoSem.ClaimMapViews
import Derived.JoinedTies
import Derived.KernelRfl
namespace Go.Proofs.YtbagikgpgdlkcaaGreatDoor
/- THE CELL 'sum', in the pinned program and in every row, IS THE sha256 OF THE DUMP (.gsa) THAT YtbagikgpgdlkcaaGreatDoorProg.lean LOADS. Nothing in Lean hashes anything: it is a label: what it is worth is what the hold of that sum in a sandbox is worth. -/
noncomputable def Tryz.pinned : Pinned := { name := "ytbagikgpgdlkcaagreatdoor", sum := "624901d34a3300d272bd72a1362fbe0f954fd6fd6e9be679a8e04f83d92c7cb8", checked := Tryz.checked }
namespace Rows
def none {H : Type} : Left H := { results := [], args := [] }

/- WHAT THE LISTED PACKAGE-LEVEL VARIABLES READ AS WHEN THE CALL BEGINS. Each datum BY PROGRAM (the guide's laid-datum.mjs) off the statement by which the dump's own 'gosem.cut.vars' lays the variable. In a bare row this is a premise. The card (YtbagikgpgdlkcaaGreatDoorCards.lean) ties it to the program's text. -/
def laid_math_bits_deBruijn32tab {H : Type} : DataW H := .agg [.lit (.int .u8 0), .lit (.int .u8 1), .lit (.int .u8 28), .lit (.int .u8 2), .lit (.int .u8 29), .lit (.int .u8 14), .lit (.int .u8 24), .lit (.int .u8 3), .lit (.int .u8 30), .lit (.int .u8 22), .lit (.int .u8 20), .lit (.int .u8 15), .lit (.int .u8 25), .lit (.int .u8 17), .lit (.int .u8 4), .lit (.int .u8 8), .lit (.int .u8 31), .lit (.int .u8 27), .lit (.int .u8 13), .lit (.int .u8 23), .lit (.int .u8 21), .lit (.int .u8 19), .lit (.int .u8 16), .lit (.int .u8 7), .lit (.int .u8 26), .lit (.int .u8 12), .lit (.int .u8 18), .lit (.int .u8 6), .lit (.int .u8 11), .lit (.int .u8 5), .lit (.int .u8 10), .lit (.int .u8 9)]

/-- 'trivetlaw17.FlipBack': WHATEVER THE INPUT: true; the input reads as it did. -/
def flipBackSpec : ChangeSpec := { name := "flipBack", fn := fun _ => fun
  | [d1, d2, d3] => { results := [.lit (.bool true)], args := [d1, d2, d3] }
  | _ => none }
def flipBackRow : OpenClaim := { program := "ytbagikgpgdlkcaagreatdoor", sum := "624901d34a3300d272bd72a1362fbe0f954fd6fd6e9be679a8e04f83d92c7cb8", func := "trivet/trivetlaw17.FlipBack", spec := "flipBack", inPlace := ["math.Float64bits", "math.Float64frombits", "math.archTrunc"], unfollowed := true, recurses := true, named := ["math/bits.deBruijn32tab"], plainKeys := false, apart := false, laid := [("math/bits.deBruijn32tab", laid_math_bits_deBruijn32tab)] }
def FlipBackSaid : Prop := flipBackRow.holds Tryz.pinned (OpenSpec.ofChange flipBackSpec)

/-- ITS FALSE NEIGHBOUR: 'it returns false'. Refute it at one input. -/
def flipBackWrong : ChangeSpec := { name := "flipBack", fn := fun _ => fun
  | [d1, d2, d3] => { results := [.lit (.bool false)], args := [d1, d2, d3] }
  | _ => none }
def FlipBackWrongFalsely : Prop := flipBackRow.holds Tryz.pinned (OpenSpec.ofChange flipBackWrong)

/-- 'trivetlaw17.FlipTurns': WHATEVER THE INPUT: true; the input reads as it did. -/
def flipTurnsSpec : ChangeSpec := { name := "flipTurns", fn := fun _ => fun
  | [d1, d2] => { results := [.lit (.bool true)], args := [d1, d2] }
  | _ => none }
def flipTurnsRow : OpenClaim := { program := "ytbagikgpgdlkcaagreatdoor", sum := "624901d34a3300d272bd72a1362fbe0f954fd6fd6e9be679a8e04f83d92c7cb8", func := "trivet/trivetlaw17.FlipTurns", spec := "flipTurns", inPlace := ["math.Float64bits", "math.Float64frombits", "math.archTrunc"], unfollowed := true, recurses := true, named := ["math/bits.deBruijn32tab"], plainKeys := false, apart := false, laid := [("math/bits.deBruijn32tab", laid_math_bits_deBruijn32tab)] }
def FlipTurnsSaid : Prop := flipTurnsRow.holds Tryz.pinned (OpenSpec.ofChange flipTurnsSpec)

/-- ITS FALSE NEIGHBOUR: 'it returns false'. Refute it at one input. -/
def flipTurnsWrong : ChangeSpec := { name := "flipTurns", fn := fun _ => fun
  | [d1, d2] => { results := [.lit (.bool false)], args := [d1, d2] }
  | _ => none }
def FlipTurnsWrongFalsely : Prop := flipTurnsRow.holds Tryz.pinned (OpenSpec.ofChange flipTurnsWrong)

/-- 'trivetlaw17.FlipSettles': WHATEVER THE INPUT: true; the input reads as it did. -/
def flipSettlesSpec : ChangeSpec := { name := "flipSettles", fn := fun _ => fun
  | [d1, d2] => { results := [.lit (.bool true)], args := [d1, d2] }
  | _ => none }
def flipSettlesRow : OpenClaim := { program := "ytbagikgpgdlkcaagreatdoor", sum := "624901d34a3300d272bd72a1362fbe0f954fd6fd6e9be679a8e04f83d92c7cb8", func := "trivet/trivetlaw17.FlipSettles", spec := "flipSettles", inPlace := ["math.Float64bits", "math.Float64frombits", "math.archTrunc"], unfollowed := true, recurses := true, named := ["math/bits.deBruijn32tab"], plainKeys := false, apart := false, laid := [("math/bits.deBruijn32tab", laid_math_bits_deBruijn32tab)] }
def FlipSettlesSaid : Prop := flipSettlesRow.holds Tryz.pinned (OpenSpec.ofChange flipSettlesSpec)

/-- ITS FALSE NEIGHBOUR: 'it returns false'. Refute it at one input. -/
def flipSettlesWrong : ChangeSpec := { name := "flipSettles", fn := fun _ => fun
  | [d1, d2] => { results := [.lit (.bool false)], args := [d1, d2] }
  | _ => none }
def FlipSettlesWrongFalsely : Prop := flipSettlesRow.holds Tryz.pinned (OpenSpec.ofChange flipSettlesWrong)

/-- 'trivetlaw15.MeshOf': WHATEVER THE INPUT: true; the input reads as it did. -/
def meshOfSpec : ChangeSpec := { name := "meshOf", fn := fun _ => fun
  | [d1, d2] => { results := [.lit (.bool true)], args := [d1, d2] }
  | _ => none }
def meshOfRow : OpenClaim := { program := "ytbagikgpgdlkcaagreatdoor", sum := "624901d34a3300d272bd72a1362fbe0f954fd6fd6e9be679a8e04f83d92c7cb8", func := "trivet/trivetlaw15.MeshOf", spec := "meshOf", inPlace := ["math.Float64bits", "math.Float64frombits", "math.archTrunc"], unfollowed := true, recurses := true, named := ["math/bits.deBruijn32tab"], plainKeys := false, apart := false, laid := [("math/bits.deBruijn32tab", laid_math_bits_deBruijn32tab)] }
def MeshOfSaid : Prop := meshOfRow.holds Tryz.pinned (OpenSpec.ofChange meshOfSpec)

/-- ITS FALSE NEIGHBOUR: 'it returns false'. Refute it at one input. -/
def meshOfWrong : ChangeSpec := { name := "meshOf", fn := fun _ => fun
  | [d1, d2] => { results := [.lit (.bool false)], args := [d1, d2] }
  | _ => none }
def MeshOfWrongFalsely : Prop := meshOfRow.holds Tryz.pinned (OpenSpec.ofChange meshOfWrong)

/-- 'trivetlaw15.MeshPlays': WHATEVER THE INPUT: true; the input reads as it did. -/
def meshPlaysSpec : ChangeSpec := { name := "meshPlays", fn := fun _ => fun
  | [d1, d2] => { results := [.lit (.bool true)], args := [d1, d2] }
  | _ => none }
def meshPlaysRow : OpenClaim := { program := "ytbagikgpgdlkcaagreatdoor", sum := "624901d34a3300d272bd72a1362fbe0f954fd6fd6e9be679a8e04f83d92c7cb8", func := "trivet/trivetlaw15.MeshPlays", spec := "meshPlays", inPlace := ["math.Float64bits", "math.Float64frombits", "math.archTrunc", "maps.clone"], unfollowed := true, recurses := true, named := ["math/bits.deBruijn32tab"], plainKeys := false, apart := false, laid := [("math/bits.deBruijn32tab", laid_math_bits_deBruijn32tab)] }
def MeshPlaysSaid : Prop := meshPlaysRow.holds Tryz.pinned (OpenSpec.ofChange meshPlaysSpec)

/-- ITS FALSE NEIGHBOUR: 'it returns false'. Refute it at one input. -/
def meshPlaysWrong : ChangeSpec := { name := "meshPlays", fn := fun _ => fun
  | [d1, d2] => { results := [.lit (.bool false)], args := [d1, d2] }
  | _ => none }
def MeshPlaysWrongFalsely : Prop := meshPlaysRow.holds Tryz.pinned (OpenSpec.ofChange meshPlaysWrong)

/- THE SECOND FORM. 'bulk': how many values and letters a reading holds, each counted each time it is reached (what is shared counts as often as it is met; a slice's spare places count too). A statement '..UptoSaid' is the law's where the arguments, and the package variables that the reading takes, are together of bulk at most 1048576: NARROWER than '..Said'. Prove '..Said' where nothing that the law and all that it calls make is longer than what came in: it says more and counts as full. Else prove '..UptoSaid'. A law counts once. -/
mutual
def uptoBulk {H : Type} : DataW H → Nat
  | .lit (.string bytes) => bytes.length + 1
  | .lit _ => 1
  | .nil => 1
  | .ptr d => uptoBulk d + 1
  | .slice elems spare => uptoBulkAll elems + uptoBulkAll spare + 1
  | .agg parts => uptoBulkAll parts + 1
  | .iface _ d => uptoBulk d + 1
  | .map entries => uptoBulkEntries entries + 1
  | .held _ => 1
def uptoBulkAll {H : Type} : List (DataW H) → Nat
  | [] => 0
  | d :: r => uptoBulk d + uptoBulkAll r
def uptoBulkEntries {H : Type} : List (Lit × DataW H) → Nat
  | [] => 0
  | x :: r => uptoBulkEntry x + uptoBulkEntries r
def uptoBulkEntry {H : Type} : Lit × DataW H → Nat
  | (.string bytes, d) => bytes.length + uptoBulk d + 1
  | (_, d) => uptoBulk d + 1
 end
def uptoSmall : (H : Type) → List (DataW H) → Bool := fun _ ds => decide (uptoBulkAll ds ≤ 1048576)
def OpenSpec.upto (s : _root_.Go.ChangeSpec) : _root_.Go.OpenSpec := { _root_.Go.OpenSpec.ofChange s with cond := some uptoSmall }

/-- 'trivetlaw17.FlipBack', WHERE WHAT IT READS IS OF BULK AT MOST 1048576: true; the input reads as it did. -/
def flipBackUptoRow : OpenClaim := { program := "ytbagikgpgdlkcaagreatdoor", sum := "624901d34a3300d272bd72a1362fbe0f954fd6fd6e9be679a8e04f83d92c7cb8", func := "trivet/trivetlaw17.FlipBack", spec := "flipBack", inPlace := ["math.Float64bits", "math.Float64frombits", "math.archTrunc"], unfollowed := true, recurses := true, named := ["math/bits.deBruijn32tab"], plainKeys := false, apart := false, laid := [("math/bits.deBruijn32tab", laid_math_bits_deBruijn32tab)], narrowed := true }
def FlipBackUptoSaid : Prop := flipBackUptoRow.holds Tryz.pinned (OpenSpec.upto flipBackSpec)

/-- 'trivetlaw17.FlipTurns', WHERE WHAT IT READS IS OF BULK AT MOST 1048576: true; the input reads as it did. -/
def flipTurnsUptoRow : OpenClaim := { program := "ytbagikgpgdlkcaagreatdoor", sum := "624901d34a3300d272bd72a1362fbe0f954fd6fd6e9be679a8e04f83d92c7cb8", func := "trivet/trivetlaw17.FlipTurns", spec := "flipTurns", inPlace := ["math.Float64bits", "math.Float64frombits", "math.archTrunc"], unfollowed := true, recurses := true, named := ["math/bits.deBruijn32tab"], plainKeys := false, apart := false, laid := [("math/bits.deBruijn32tab", laid_math_bits_deBruijn32tab)], narrowed := true }
def FlipTurnsUptoSaid : Prop := flipTurnsUptoRow.holds Tryz.pinned (OpenSpec.upto flipTurnsSpec)

/-- 'trivetlaw17.FlipSettles', WHERE WHAT IT READS IS OF BULK AT MOST 1048576: true; the input reads as it did. -/
def flipSettlesUptoRow : OpenClaim := { program := "ytbagikgpgdlkcaagreatdoor", sum := "624901d34a3300d272bd72a1362fbe0f954fd6fd6e9be679a8e04f83d92c7cb8", func := "trivet/trivetlaw17.FlipSettles", spec := "flipSettles", inPlace := ["math.Float64bits", "math.Float64frombits", "math.archTrunc"], unfollowed := true, recurses := true, named := ["math/bits.deBruijn32tab"], plainKeys := false, apart := false, laid := [("math/bits.deBruijn32tab", laid_math_bits_deBruijn32tab)], narrowed := true }
def FlipSettlesUptoSaid : Prop := flipSettlesUptoRow.holds Tryz.pinned (OpenSpec.upto flipSettlesSpec)

/-- 'trivetlaw15.MeshOf', WHERE WHAT IT READS IS OF BULK AT MOST 1048576: true; the input reads as it did. -/
def meshOfUptoRow : OpenClaim := { program := "ytbagikgpgdlkcaagreatdoor", sum := "624901d34a3300d272bd72a1362fbe0f954fd6fd6e9be679a8e04f83d92c7cb8", func := "trivet/trivetlaw15.MeshOf", spec := "meshOf", inPlace := ["math.Float64bits", "math.Float64frombits", "math.archTrunc"], unfollowed := true, recurses := true, named := ["math/bits.deBruijn32tab"], plainKeys := false, apart := false, laid := [("math/bits.deBruijn32tab", laid_math_bits_deBruijn32tab)], narrowed := true }
def MeshOfUptoSaid : Prop := meshOfUptoRow.holds Tryz.pinned (OpenSpec.upto meshOfSpec)

/-- 'trivetlaw15.MeshPlays', WHERE WHAT IT READS IS OF BULK AT MOST 1048576: true; the input reads as it did. -/
def meshPlaysUptoRow : OpenClaim := { program := "ytbagikgpgdlkcaagreatdoor", sum := "624901d34a3300d272bd72a1362fbe0f954fd6fd6e9be679a8e04f83d92c7cb8", func := "trivet/trivetlaw15.MeshPlays", spec := "meshPlays", inPlace := ["math.Float64bits", "math.Float64frombits", "math.archTrunc", "maps.clone"], unfollowed := true, recurses := true, named := ["math/bits.deBruijn32tab"], plainKeys := false, apart := false, laid := [("math/bits.deBruijn32tab", laid_math_bits_deBruijn32tab)], narrowed := true }
def MeshPlaysUptoSaid : Prop := meshPlaysUptoRow.holds Tryz.pinned (OpenSpec.upto meshPlaysSpec)

end Rows
end Go.Proofs.YtbagikgpgdlkcaaGreatDoor
