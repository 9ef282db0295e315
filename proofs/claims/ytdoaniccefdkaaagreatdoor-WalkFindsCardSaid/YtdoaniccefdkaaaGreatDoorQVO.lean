/- What the document asks of points and places. -/
import Derived.Test.YtdoaniccefdkaaaGreatDoorZC
set_option linter.all false
namespace Go.Proofs.YtdoaniccefdkaaaGreatDoor
open Tvf

/-! ### the document's places -/
def aliB (p q : Pt) : Bool := feq p.1 q.1 && feq p.2 q.2
def btB (x y z : Nat) : Bool := (fle x z && fle z y) || (fle y z && fle z x)
def onB (a b p : Pt) : Bool := ptOK a && (ptOK b && (ptOK p && (decide (signI a b p = 0) && (btB a.1 b.1 p.1 && btB a.2 b.2 p.2))))
def btwB (a b p : Pt) : Bool := onB a b p && (!aliB a p && !aliB b p)
def insB (a b c p : Pt) : Bool := decide (0 < signI a b p) && (decide (0 < signI b c p) && decide (0 < signI c a p))
/-- a point that may be -/
def PtO (p : Pt) : Prop := pt64 p ∧ ptOK p = true

end Go.Proofs.YtdoaniccefdkaaaGreatDoor
