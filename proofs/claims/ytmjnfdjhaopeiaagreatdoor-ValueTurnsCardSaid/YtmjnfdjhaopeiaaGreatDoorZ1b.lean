/-
  A part of the proof: Z1b.
-/
import Derived.Test.YtmjnfdjhaopeiaaGreatDoorZ0
namespace Go.Proofs.YtmjnfdjhaopeiaaGreatDoor
open Go Go.Pvm
set_option maxRecDepth 100000
set_option maxHeartbeats 1000000
/-! ### scarf/scarfref13.own -/
def asks_scarfref13_own : Asks := [(7002, .told (.sh (.one (.bool)))), (9002, .told (.sh (.one (.bool)))), (11002, .told (.sh (.one (.bool))))]
theorem vc_scarfref13_own (n : Nat) (a0_Kind : Int) (a0_Namesu : Bool) (a0_Namesn : Nat) (a0_Namesc : List PV) (a0_Lu : Bool) (a0_Ln : Nat) (a0_Lc : List PV) (a0_R : Int) (Q : PV → Store → Prop)
  (h :
    br (decide (a0_Kind = (20)))
    (br (decide (((a0_Namesn : Nat) : Int) = (0)))
      (br (decide (((a0_Ln : Nat) : Int) = (0)))
        (br (decide (a0_R ≥ (0)))
          (Q (.s (.bool (decide (a0_R ≤ (1048576))))) ⟨[], 0⟩)
          (Q (.s (.bool false)) ⟨[], 0⟩))
        (Q (.s (.bool false)) ⟨[], 0⟩))
      (Q (.s (.bool false)) ⟨[], 0⟩))
    (br (decide (a0_Kind = (21)))
      (br (decide (((a0_Namesn : Nat) : Int) = (0)))
        (br (decide (((a0_Ln : Nat) : Int) = (0)))
          (br (decide (a0_R ≥ (0)))
            (Q (.s (.bool (decide (a0_R ≤ (1048576))))) ⟨[], 0⟩)
            (Q (.s (.bool false)) ⟨[], 0⟩))
          (Q (.s (.bool false)) ⟨[], 0⟩))
        (Q (.s (.bool false)) ⟨[], 0⟩))
      (br (!(decide (a0_R = (0))))
        (Q (.s (.bool false)) ⟨[], 0⟩)
        (br (decide (((a0_Ln : Nat) : Int) > (64)))
          (Q (.s (.bool false)) ⟨[], 0⟩)
          (br (decide (a0_Kind = (13)))
            (∃ (v1 : Bool), (cl n f_scarfref13_names [.sl a0_Namesu a0_Namesn a0_Namesc, i64 (64)] ⟨[], 0⟩ = some (.s (.bool v1), ⟨[], 0⟩)) ∧
              br v1
              (Q (.s (.bool (decide (((a0_Ln : Nat) : Int) = ((a0_Namesn : Nat) : Int))))) ⟨[], 0⟩)
              (Q (.s (.bool false)) ⟨[], 0⟩))
            (br (decide (a0_Kind = (15)))
              (∃ (v2 : Bool), (cl n f_scarfref13_names [.sl a0_Namesu a0_Namesn a0_Namesc, i64 (64)] ⟨[], 0⟩ = some (.s (.bool v2), ⟨[], 0⟩)) ∧
                br v2
                (Q (.s (.bool (decide (((a0_Ln : Nat) : Int) = ((a0_Namesn : Nat) : Int))))) ⟨[], 0⟩)
                (Q (.s (.bool false)) ⟨[], 0⟩))
              (br (decide (a0_Kind = (16)))
                (∃ (v3 : Bool), (cl n f_scarfref13_names [.sl a0_Namesu a0_Namesn a0_Namesc, i64 (64)] ⟨[], 0⟩ = some (.s (.bool v3), ⟨[], 0⟩)) ∧
                  br v3
                  (Q (.s (.bool (decide (((a0_Ln : Nat) : Int) = (0))))) ⟨[], 0⟩)
                  (Q (.s (.bool false)) ⟨[], 0⟩))
                (br (decide (a0_Kind = (19)))
                  (∃ (v4 : Bool), (cl n f_scarfref13_names [.sl a0_Namesu a0_Namesn a0_Namesc, i64 (32)] ⟨[], 0⟩ = some (.s (.bool v4), ⟨[], 0⟩)) ∧
                    br v4
                    (Q (.s (.bool (decide (((a0_Ln : Nat) : Int) = (0))))) ⟨[], 0⟩)
                    (Q (.s (.bool false)) ⟨[], 0⟩))
                  (br (decide (((a0_Namesn : Nat) : Int) > (0)))
                    (Q (.s (.bool false)) ⟨[], 0⟩)
                    (br (decide (a0_Kind = (12)))
                      (Q (.s (.bool (decide (((a0_Ln : Nat) : Int) = (1))))) ⟨[], 0⟩)
                      (br (decide (a0_Kind = (17)))
                        (Q (.s (.bool (decide (((a0_Ln : Nat) : Int) = (1))))) ⟨[], 0⟩)
                        (br (decide (a0_Kind = (14)))
                          (Q (.s (.bool (decide (((a0_Ln : Nat) : Int) ≥ (1))))) ⟨[], 0⟩)
                          (br (decide (a0_Kind = (18)))
                            (Q (.s (.bool (decide (((a0_Ln : Nat) : Int) = (2))))) ⟨[], 0⟩)
                            (br (decide (a0_Kind ≥ (1)))
                              (br (decide (a0_Kind ≤ (11)))
                                (Q (.s (.bool (decide (((a0_Ln : Nat) : Int) = (0))))) ⟨[], 0⟩)
                                (Q (.s (.bool false)) ⟨[], 0⟩))
                              (Q (.s (.bool false)) ⟨[], 0⟩))))))))))))))) :
  Ret cfg (n + 1) f_scarfref13_own [.agg [i64 a0_Kind, .sl a0_Namesu a0_Namesn a0_Namesc, .sl a0_Lu a0_Ln a0_Lc, i64 a0_R]] ⟨[], 0⟩ Q :=
  vcRun_eq (fn := Tryz.f71) (asks := asks_scarfref13_own) (by kernel_rfl) (by kernel_rfl) (by kernel_rfl) (by kernel_rfl) (by kernel_rfl) h
/-! ### math/bits.Mul -/
def asks_math_bits_Mul : Asks := [(3002, .told (.tup [.one (.int .u64), .one (.int .u64)]))]
theorem vc_math_bits_Mul (n : Nat) (a0 : Int) (a1 : Int) (Q : PV → Store → Prop)
  (h :
    ∃ (v1 : Int) (v2 : Int), (cl n f_math_bits_Mul64 [.s (.int .u64 a0), .s (.int .u64 a1)] ⟨[], 0⟩ = some (.tup [.s (.int .u64 v1), .s (.int .u64 v2)], ⟨[], 0⟩)) ∧
    Q (.tup [.s (.int .u64 v1), .s (.int .u64 v2)]) ⟨[], 0⟩) :
  Ret cfg (n + 1) f_math_bits_Mul [.s (.int .u64 a0), .s (.int .u64 a1)] ⟨[], 0⟩ Q :=
  vcRun_eq (fn := Tryz.f73) (asks := asks_math_bits_Mul) (by kernel_rfl) (by kernel_rfl) (by kernel_rfl) (by kernel_rfl) (by kernel_rfl) h
/-! ### math/bits.Mul64 -/
def asks_math_bits_Mul64 : Asks := []
theorem vc_math_bits_Mul64 (n : Nat) (a0 : Int) (a1 : Int) (Q : PV → Store → Prop)
  (h :
    Q (.tup [.s (.int .u64 (IntKind.u64.wrap ((IntKind.u64.wrap ((IntKind.u64.wrap ((Int.fdiv a0 (2 ^ 32)) * (Int.fdiv a1 (2 ^ 32)))) + (Int.fdiv (IntKind.u64.wrap ((IntKind.u64.wrap ((Int.fdiv a0 (2 ^ 32)) * (bits .and .u64 a1 (4294967295)))) + (Int.fdiv (IntKind.u64.wrap ((bits .and .u64 a0 (4294967295)) * (bits .and .u64 a1 (4294967295)))) (2 ^ 32)))) (2 ^ 32)))) + (Int.fdiv (IntKind.u64.wrap ((bits .and .u64 (IntKind.u64.wrap ((IntKind.u64.wrap ((Int.fdiv a0 (2 ^ 32)) * (bits .and .u64 a1 (4294967295)))) + (Int.fdiv (IntKind.u64.wrap ((bits .and .u64 a0 (4294967295)) * (bits .and .u64 a1 (4294967295)))) (2 ^ 32)))) (4294967295)) + (IntKind.u64.wrap ((bits .and .u64 a0 (4294967295)) * (Int.fdiv a1 (2 ^ 32)))))) (2 ^ 32))))), .s (.int .u64 (IntKind.u64.wrap (a0 * a1)))]) ⟨[], 0⟩) :
  Ret cfg (n + 1) f_math_bits_Mul64 [.s (.int .u64 a0), .s (.int .u64 a1)] ⟨[], 0⟩ Q :=
  vcRun_eq (fn := Tryz.f91) (asks := asks_math_bits_Mul64) (by kernel_rfl) (by kernel_rfl) (by kernel_rfl) (by kernel_rfl) (by kernel_rfl) h
end Go.Proofs.YtmjnfdjhaopeiaaGreatDoor
