/-
  A part of the proof: Z1c.
-/
import Derived.Test.YtmjnfdjhaopeiaaGreatDoorZ0
namespace Go.Proofs.YtmjnfdjhaopeiaaGreatDoor.W
open Go Go.Pvm
set_option maxRecDepth 100000
set_option maxHeartbeats 1000000
/-! ### slices.ContainsFunc[[]int,int] -/
def asks_slices_ContainsFunc_sl_int_int : Asks := [(1002, .told (.sh (.one (.int .i64))))]
theorem vc_slices_ContainsFunc_sl_int_int (n : Nat) (a0u : Bool) (a0n : Nat) (a0c : List PV) (Q : PV → Store → Prop)
  (h :
    ∃ (v1 : Int), (cl n f_slices_IndexFunc_sl_int_int [.sl a0u a0n a0c, .fn (.func f_value_With_1) [] []] ⟨[], 0⟩ = some (i64 v1, ⟨[], 0⟩)) ∧
    Q (.s (.bool (decide (v1 ≥ (0))))) ⟨[], 0⟩) :
  Ret cfg (n + 1) f_slices_ContainsFunc_sl_int_int [.sl a0u a0n a0c, .fn (.func f_value_With_1) [] []] ⟨[], 0⟩ Q :=
  vcRun_eq (fn := Tryz.f29) (asks := asks_slices_ContainsFunc_sl_int_int) (by kernel_rfl) (by kernel_rfl) (by kernel_rfl) (by kernel_rfl) (by kernel_rfl) h
/-! ### slices.IndexFunc[[]int,int] -/
def asks_slices_IndexFunc_sl_int_int : Asks := [(4003, .cond), (4004, .told (.sh (.one (.int .i64)))), (4005, .told (.sh (.one (.bool))))]
@[irreducible] noncomputable def L_slices_IndexFunc_sl_int_int_0 (n m : Nat) (a0u : Bool) (a0n : Nat) (a0c : List PV) (x0_0 : Int) (Q : PV → Store → Prop) : Prop := Pvm.Ends cfg (cl n) f_slices_IndexFunc_sl_int_int n (codeAt (bodyOf Tryz.f48) [1, 0, 1, 0]) m
  { regs := [(0, .v (.sl a0u a0n a0c)), (1, .v (.fn (.func f_value_With_1) [] [])), (7, .v (i64 ((a0n : Nat) : Int))), (8, .v (i64 x0_0))], st := ⟨[], ⟨[], 0⟩⟩, nt := 19 }
  (contC cfg (cl n) f_slices_IndexFunc_sl_int_int n asks_slices_IndexFunc_sl_int_int (bodyOf Tryz.f48) [1, 0, 1, 0] [] (retK cfg Tryz.f48 Q))
theorem vc_slices_IndexFunc_sl_int_int (n : Nat) (a0u : Bool) (a0n : Nat) (a0c : List PV) (Q : PV → Store → Prop)
  (h :
    L_slices_IndexFunc_sl_int_int_0 n n a0u a0n a0c (0) Q) :
  Ret cfg (n + 1) f_slices_IndexFunc_sl_int_int [.sl a0u a0n a0c, .fn (.func f_value_With_1) [] []] ⟨[], 0⟩ Q :=
  vcRun_eq (fn := Tryz.f48) (asks := asks_slices_IndexFunc_sl_int_int) (by kernel_rfl) (by kernel_rfl) (by kernel_rfl) (by kernel_rfl) (by kernel_rfl) h
theorem lp_slices_IndexFunc_sl_int_int_0 (n m : Nat) (a0u : Bool) (a0n : Nat) (a0c : List PV) (x0_0 : Int) (Q : PV → Store → Prop)
  (h :
    br (decide (x0_0 < ((a0n : Nat) : Int)))
    (((0 : Int) ≤ x0_0 ∧ x0_0 < ((a0n : Nat) : Int) ∧ Int.toNat x0_0 * 1 < (a0c : List PV).length) ∧
      ∃ (v1 : Int), (ld prog t_int a0c (Int.toNat x0_0 * 1) (i64 v1)) ∧
      ∃ (v2 : Bool), (cl n f_value_With_1 [i64 v1] ⟨[], 0⟩ = some (.s (.bool v2), ⟨[], 0⟩)) ∧
      br v2
      (Q (i64 x0_0) ⟨[], 0⟩)
      (L_slices_IndexFunc_sl_int_int_0 n m a0u a0n a0c (IntKind.i64.wrap (x0_0 + (1))) Q))
    (Q (i64 (-1)) ⟨[], 0⟩)) :
  L_slices_IndexFunc_sl_int_int_0 n (m + 1) a0u a0n a0c x0_0 Q := by
  unfold L_slices_IndexFunc_sl_int_int_0
  exact Ends_eq (asks := asks_slices_IndexFunc_sl_int_int) (by kernel_rfl) h
end Go.Proofs.YtmjnfdjhaopeiaaGreatDoor.W
