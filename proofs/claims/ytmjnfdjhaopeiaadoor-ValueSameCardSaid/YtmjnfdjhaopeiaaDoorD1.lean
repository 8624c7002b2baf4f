/-
  A part of the proof: D1.
-/
import Derived.Test.YtmjnfdjhaopeiaaDoorPx2
import Derived.Test.YtmjnfdjhaopeiaaDoorRows
namespace Go.Proofs.YtmjnfdjhaopeiaaDoor
open Go Go.Pvm
def privT : List (Nat × List Nat) := [(3, [2, 3]), (4, [1]), (6, [2, 3]), (7, [2, 3]), (8, [2]), (9, [2, 3]), (11, [8, 9]), (13, [2, 3]), (15, [1]), (16, [2, 3]), (17, [6]), (24, [3]), (25, [3]), (26, [3]), (27, [1, 2, 3, 5]), (28, [4]), (30, [2, 9]), (35, [7]), (50, [1]), (64, [2]), (75, [9])]
def keepT : List (Nat × List Nat) := [(7, [2, 3, 5]), (8, [1, 2, 5, 6, 31, 32]), (10, [0, 1, 12, 13]), (11, [1, 2, 15, 16, 17]), (12, [0, 1, 5]), (14, [2, 3, 5, 59, 60, 85, 86, 87]), (17, [0, 2, 8, 9, 10]), (18, [0, 1, 5, 8, 39, 40, 41, 63, 64, 65]), (21, [0, 3, 4, 5, 7, 8, 9, 24, 25, 26, 27, 28, 29, 50, 51]), (23, [3, 6, 7, 8, 15, 16, 19, 20, 23, 24]), (27, [2, 3, 12, 13, 14]), (30, [1, 2, 7, 161, 162, 163, 171, 172, 173, 176, 177, 189, 190]), (35, [0, 5, 9, 10, 11, 28, 29]), (36, [7, 8]), (43, [0, 1, 5, 14, 26, 27, 41, 42, 43, 68]), (49, [0, 5, 6, 7, 16, 17, 18, 19, 20, 27, 28, 29]), (51, [0, 1, 7, 8]), (57, [0, 1, 4]), (58, [0, 1, 3, 4, 10, 11, 12, 13, 14, 15, 16, 17])]
def fullT : List Nat := [17, 24, 25, 26, 28, 57]
def globT : List (Nat × List PV) := [(0, (dcells (H := Unit) Rows.laid_internal_strconv_uint64pow10).getD []), (3, (dcells (H := Unit) Rows.laid_unicode_utf8_first).getD []),
  (6, (dcells (H := Unit) Rows.laid_math_bits_deBruijn64tab).getD [])]
noncomputable def cfg : Cfg := { P := Tryd.prog, glob := Pvm.look globT, priv := fun f d => mem? (at? privT f) d, keep := at? keepT, full := mem? fullT, intr := fun f => if f = 18 then some joinI else none }
def ok? : Option (PV × Store) → Bool
  | some (.s (.bool true), _) => true
  | _ => false
def some? : Option (PV × Store) → Bool
  | some _ => true
  | _ => false
set_option maxRecDepth 100000 in
theorem awake_run : ok? (run cfg 60 5 [] ⟨[], 0⟩) = true := by kernel_rfl
end Go.Proofs.YtmjnfdjhaopeiaaDoor
