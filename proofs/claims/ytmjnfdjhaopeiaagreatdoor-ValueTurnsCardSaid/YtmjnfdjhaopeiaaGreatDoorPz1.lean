/-
  A part of the proof: Pz1.
-/
import Derived.Test.YtmjnfdjhaopeiaaGreatDoorPx2
import Derived.Shelf.SlicesE.Clone
/-
  Functions that are told, not run: slices.Clone, a text's name.
-/
namespace Go.Pvm
open Go

def cloneI (sz : Nat) (args : List PV) (S : Store) : Option (PV × Store) :=
  match args with
  | [.sl _ n cs] => if cs.length = n * sz ∧ cs.all oneC = true ∧ n ≤ 1000000 then some (.sl false n cs, S) else none
  | _ => none

/-- Is a sign a small letter, a great one, a digit, a hyphen? -/
def kindB (c : UInt8) : Nat := if 97 ≤ c.toNat ∧ c.toNat ≤ 122 then 1 else if 65 ≤ c.toNat ∧ c.toNat ≤ 90 then 2 else if 48 ≤ c.toNat ∧ c.toNat ≤ 57 then 3 else if c.toNat = 45 then 4 else if c.toNat = 46 then 5 else 0

/-- The signs behind: 'new': a part begins; 'sz': which letters it has. -/
def nameL : List UInt8 → Bool → Nat → Bool
  | [], new, _ => !new
  | c :: r, true, _ => if kindB c = 1 ∨ kindB c = 2 then nameL r false (kindB c) else false
  | c :: r, false, sz => if kindB c = 4 then nameL r true sz else if kindB c = sz ∨ kindB c = 3 then nameL r false sz else false

def nameOk (s : ByteArray) : Bool := decide (1 ≤ s.size) && (decide (s.size ≤ 100) && nameL s.data.toList true 0)

def nameI (args : List PV) (S : Store) : Option (PV × Store) :=
  match args with
  | [.s (.string s)] => some (.s (.bool (nameOk s)), S)
  | _ => none
end Go.Pvm
