/-
  A part of the proof: Px2.
-/
import Derived.Test.YtmjnfdjhaopeiaaGreatDoorPx1
/-
  PVM: data of tables, and tables of a configuration.
-/
namespace Go.Pvm
open Go
mutual
/-- The cells that plain data takes. -/
def dcells {H : Type} : DataW H → Option (List PV)
  | .lit l => some [.s l.value]
  | .agg ps => dcellsAll ps
  | _ => none
def dcellsAll {H : Type} : List (DataW H) → Option (List PV)
  | [] => some []
  | d :: r => (dcells d).bind fun a => (dcellsAll r).map fun b => a ++ b
end

def mem? (l : List Nat) (d : Nat) : Bool := l.any (· == d)
def at? (T : List (Nat × List Nat)) (f : Nat) : List Nat := (look T f).getD []
end Go.Pvm
