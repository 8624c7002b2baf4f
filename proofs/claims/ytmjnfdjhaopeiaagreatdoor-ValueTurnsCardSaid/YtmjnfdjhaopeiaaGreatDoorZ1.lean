/-
  A part of the proof: Z1.
-/
import Derived.Test.YtmjnfdjhaopeiaaGreatDoorZ0
namespace Go.Proofs.YtmjnfdjhaopeiaaGreatDoor
open Go Go.Pvm
set_option maxRecDepth 100000
set_option maxHeartbeats 1000000
/-! ### scarf/scarflaw15.ValueArgs -/
def asks_scarflaw15_ValueArgs : Asks := [(2000, .told (.sh (.one (.bool)))), (6002, .cond), (6003, .told (.sh (.agg [.int .i64, .sl, .sl]))), (6004, .told (.sh (.one (.bool)))), (7000, .told (.sh (.one (.bool)))), (8002, .told (.sh (.one (.int .i64)))), (8005, .told (.sh (.one (.int .i64)))), (8008, .told (.sh (.one (.bool))))]
@[irreducible] noncomputable def L_scarflaw15_ValueArgs_0 (n m : Nat) (a0_Name : ByteArray) (a0_Pu : Bool) (a0_Pn : Nat) (a0_Pc : List PV) (a0_Tu : Bool) (a0_Tn : Nat) (a0_Tc : List PV) (a0_R_Kind : Int) (a0_R_Namesu : Bool) (a0_R_Namesn : Nat) (a0_R_Namesc : List PV) (a0_R_Lu : Bool) (a0_R_Ln : Nat) (a0_R_Lc : List PV) (a0_R_R : Int) (a1u : Bool) (a1n : Nat) (a1c : List PV) (x0_0 : Int) (Q : PV → Store → Prop) : Prop := Pvm.Ends cfg (cl n) f_scarflaw15_ValueArgs n (codeAt (bodyOf Tryz.f3) [1, 1, 0, 1, 0]) m
  { regs := [(1, .v (.sl a1u a1n a1c)), (2, .loc 2 0), (5, .v (i64 x0_0))], st := ⟨[(2, [.s (.string a0_Name), .sl a0_Pu a0_Pn a0_Pc, .sl a0_Tu a0_Tn a0_Tc, i64 a0_R_Kind, .sl a0_R_Namesu a0_R_Namesn a0_R_Namesc, .sl a0_R_Lu a0_R_Ln a0_R_Lc, i64 a0_R_R])], ⟨[], 0⟩⟩, nt := 33 }
  (contC cfg (cl n) f_scarflaw15_ValueArgs n asks_scarflaw15_ValueArgs (bodyOf Tryz.f3) [1, 1, 0, 1, 0] [] (retK cfg Tryz.f3 Q))
theorem vc_scarflaw15_ValueArgs (n : Nat) (a0_Name : ByteArray) (a0_Pu : Bool) (a0_Pn : Nat) (a0_Pc : List PV) (a0_Tu : Bool) (a0_Tn : Nat) (a0_Tc : List PV) (a0_R_Kind : Int) (a0_R_Namesu : Bool) (a0_R_Namesn : Nat) (a0_R_Namesc : List PV) (a0_R_Lu : Bool) (a0_R_Ln : Nat) (a0_R_Lc : List PV) (a0_R_R : Int) (a1u : Bool) (a1n : Nat) (a1c : List PV) (Q : PV → Store → Prop)
  (h :
    br (decide (((a1n : Nat) : Int) > (100)))
    (∃ (v1 : Bool), (cl n f_scarflaw15_awake [] ⟨[], 0⟩ = some (.s (.bool v1), ⟨[], 0⟩)) ∧
      Q (.s (.bool v1)) ⟨[], 0⟩)
    (L_scarflaw15_ValueArgs_0 n n a0_Name a0_Pu a0_Pn a0_Pc a0_Tu a0_Tn a0_Tc a0_R_Kind a0_R_Namesu a0_R_Namesn a0_R_Namesc a0_R_Lu a0_R_Ln a0_R_Lc a0_R_R a1u a1n a1c (0) Q)) :
  Ret cfg (n + 1) f_scarflaw15_ValueArgs [.agg [.s (.string a0_Name), .sl a0_Pu a0_Pn a0_Pc, .sl a0_Tu a0_Tn a0_Tc, i64 a0_R_Kind, .sl a0_R_Namesu a0_R_Namesn a0_R_Namesc, .sl a0_R_Lu a0_R_Ln a0_R_Lc, i64 a0_R_R], .sl a1u a1n a1c] ⟨[], 0⟩ Q :=
  vcRun_eq (fn := Tryz.f3) (asks := asks_scarflaw15_ValueArgs) (by kernel_rfl) (by kernel_rfl) (by kernel_rfl) (by kernel_rfl) (by kernel_rfl) h
theorem lp_scarflaw15_ValueArgs_0 (n m : Nat) (a0_Name : ByteArray) (a0_Pu : Bool) (a0_Pn : Nat) (a0_Pc : List PV) (a0_Tu : Bool) (a0_Tn : Nat) (a0_Tc : List PV) (a0_R_Kind : Int) (a0_R_Namesu : Bool) (a0_R_Namesn : Nat) (a0_R_Namesc : List PV) (a0_R_Lu : Bool) (a0_R_Ln : Nat) (a0_R_Lc : List PV) (a0_R_R : Int) (a1u : Bool) (a1n : Nat) (a1c : List PV) (x0_0 : Int) (Q : PV → Store → Prop)
  (h :
    br (decide (x0_0 < ((a1n : Nat) : Int)))
    (((0 : Int) ≤ x0_0 ∧ x0_0 < ((a1n : Nat) : Int) ∧ Int.toNat x0_0 * 3 < (a1c : List PV).length) ∧
      ∃ (v1 : Int) (v2 : Bool) (v3 : Nat) (v4 : List PV) (v5 : Bool) (v6 : Nat) (v7 : List PV), (ld prog t_api_Val a1c (Int.toNat x0_0 * 3) (.agg [i64 v1, .sl v2 v3 v4, .sl v5 v6 v7])) ∧
      ∃ (v8 : Bool), (cl n f_scarflaw15_Light [.agg [i64 v1, .sl v2 v3 v4, .sl v5 v6 v7]] ⟨[], 0⟩ = some (.s (.bool v8), ⟨[], 0⟩)) ∧
      br (!v8)
      (∃ (v9 : Bool), (cl n f_scarflaw15_awake [] ⟨[], 0⟩ = some (.s (.bool v9), ⟨[], 0⟩)) ∧
        Q (.s (.bool v9)) ⟨[], 0⟩)
      (L_scarflaw15_ValueArgs_0 n m a0_Name a0_Pu a0_Pn a0_Pc a0_Tu a0_Tn a0_Tc a0_R_Kind a0_R_Namesu a0_R_Namesn a0_R_Namesc a0_R_Lu a0_R_Ln a0_R_Lc a0_R_R a1u a1n a1c (IntKind.i64.wrap (x0_0 + (1))) Q))
    (∃ (v10 : Int), (cl n f_value_Args [.agg [.s (.string a0_Name), .sl a0_Pu a0_Pn a0_Pc, .sl a0_Tu a0_Tn a0_Tc, i64 a0_R_Kind, .sl a0_R_Namesu a0_R_Namesn a0_R_Namesc, .sl a0_R_Lu a0_R_Ln a0_R_Lc, i64 a0_R_R], .sl a1u a1n a1c] ⟨[], 0⟩ = some (i64 v10, ⟨[], 0⟩)) ∧
      ∃ (v11 : Int), (cl n f_scarfref15_Args [.agg [.s (.string a0_Name), .sl a0_Pu a0_Pn a0_Pc, .sl a0_Tu a0_Tn a0_Tc, i64 a0_R_Kind, .sl a0_R_Namesu a0_R_Namesn a0_R_Namesc, .sl a0_R_Lu a0_R_Ln a0_R_Lc, i64 a0_R_R], .sl a1u a1n a1c] ⟨[], 0⟩ = some (i64 v11, ⟨[], 0⟩)) ∧
      br (decide (v10 = v11))
      (∃ (v12 : Bool), (cl n f_scarflaw15_awake [] ⟨[], 0⟩ = some (.s (.bool v12), ⟨[], 0⟩)) ∧
        Q (.s (.bool v12)) ⟨[], 0⟩)
      (Q (.s (.bool false)) ⟨[], 0⟩))) :
  L_scarflaw15_ValueArgs_0 n (m + 1) a0_Name a0_Pu a0_Pn a0_Pc a0_Tu a0_Tn a0_Tc a0_R_Kind a0_R_Namesu a0_R_Namesn a0_R_Namesc a0_R_Lu a0_R_Ln a0_R_Lc a0_R_R a1u a1n a1c x0_0 Q := by
  unfold L_scarflaw15_ValueArgs_0
  exact Ends_eq (asks := asks_scarflaw15_ValueArgs) (by kernel_rfl) h
/-! ### scarf/scarflaw15.ValueHandles -/
def asks_scarflaw15_ValueHandles : Asks := [(1001, .told (.sh (.one (.bool)))), (2000, .told (.sh (.one (.bool)))), (3002, .told (.tup [.one (.sl), .one (.sl)])), (4002, .told (.sh (.one (.int .i64)))), (5009, .told (.sh (.one (.bool)))), (6002, .told (.tup [.one (.sl), .one (.sl)])), (12002, .cond), (12004, .told (.sh (.one (.int .i64)))), (12007, .cond), (12009, .told (.sh (.one (.int .i64)))), (12014, .cond), (12016, .told (.sh (.one (.int .i64)))), (12019, .cond), (12021, .told (.sh (.one (.int .i64)))), (14002, .told (.sh (.one (.bool)))), (14004, .told (.sh (.one (.bool))))]
@[irreducible] noncomputable def L_scarflaw15_ValueHandles_0 (n m : Nat) (x0_0 : Bool) (x0_1 : Nat) (x0_2 : List PV) (x0_3 : Bool) (x0_4 : Nat) (x0_5 : List PV) (x0_6 : Bool) (x0_7 : Nat) (x0_8 : List PV) (x0_9 : Bool) (x0_10 : Nat) (x0_11 : List PV) (x0_12 : Int) (Q : PV → Store → Prop) : Prop := Pvm.Ends cfg (cl n) f_scarflaw15_ValueHandles n (codeAt (bodyOf Tryz.f4) [1, 1, 1, 1, 1, 1, 0, 1, 0]) m
  { regs := [(5, .v (.sl x0_0 x0_1 x0_2)), (6, .v (.sl x0_3 x0_4 x0_5)), (7, .v (.sl x0_6 x0_7 x0_8)), (8, .v (.sl x0_9 x0_10 x0_11)), (9, .v (i64 x0_12))], st := ⟨[], ⟨[], 0⟩⟩, nt := 82 }
  (contC cfg (cl n) f_scarflaw15_ValueHandles n asks_scarflaw15_ValueHandles (bodyOf Tryz.f4) [1, 1, 1, 1, 1, 1, 0, 1, 0] [] (retK cfg Tryz.f4 Q))
theorem vc_scarflaw15_ValueHandles (n : Nat) (a0_Kind : Int) (a0_Namesu : Bool) (a0_Namesn : Nat) (a0_Namesc : List PV) (a0_Lu : Bool) (a0_Ln : Nat) (a0_Lc : List PV) (a0_R : Int) (a1_N : Int) (a1_Su : Bool) (a1_Sn : Nat) (a1_Sc : List PV) (a1_Lu : Bool) (a1_Ln : Nat) (a1_Lc : List PV) (Q : PV → Store → Prop)
  (h :
    ∃ (v1 : Bool), (cl n f_scarflaw15_Light [.agg [i64 a1_N, .sl a1_Su a1_Sn a1_Sc, .sl a1_Lu a1_Ln a1_Lc]] ⟨[], 0⟩ = some (.s (.bool v1), ⟨[], 0⟩)) ∧
    br (!v1)
    (∃ (v2 : Bool), (cl n f_scarflaw15_awake [] ⟨[], 0⟩ = some (.s (.bool v2), ⟨[], 0⟩)) ∧
      Q (.s (.bool v2)) ⟨[], 0⟩)
    (∃ (v3 : Bool) (v4 : Nat) (v5 : List PV) (v6 : Bool) (v7 : Nat) (v8 : List PV), (cl n f_value_Handles [.agg [i64 a0_Kind, .sl a0_Namesu a0_Namesn a0_Namesc, .sl a0_Lu a0_Ln a0_Lc, i64 a0_R], .agg [i64 a1_N, .sl a1_Su a1_Sn a1_Sc, .sl a1_Lu a1_Ln a1_Lc]] ⟨[], 0⟩ = some (.tup [.sl v3 v4 v5, .sl v6 v7 v8], ⟨[], 0⟩)) ∧
      ∃ (v9 : Int), (cl n f_scarfref15_Check [.agg [i64 a0_Kind, .sl a0_Namesu a0_Namesn a0_Namesc, .sl a0_Lu a0_Ln a0_Lc, i64 a0_R], .agg [i64 a1_N, .sl a1_Su a1_Sn a1_Sc, .sl a1_Lu a1_Ln a1_Lc]] ⟨[], 0⟩ = some (i64 v9, ⟨[], 0⟩)) ∧
      br (!(decide (v9 = (0))))
      (br (decide (((v4 : Nat) : Int) = (0)))
        (br (decide (((v7 : Nat) : Int) = (0)))
          (∃ (v10 : Bool), (cl n f_scarflaw15_awake [] ⟨[], 0⟩ = some (.s (.bool v10), ⟨[], 0⟩)) ∧
            Q (.s (.bool v10)) ⟨[], 0⟩)
          (Q (.s (.bool false)) ⟨[], 0⟩))
        (Q (.s (.bool false)) ⟨[], 0⟩))
      (∃ (v11 : Bool) (v12 : Nat) (v13 : List PV) (v14 : Bool) (v15 : Nat) (v16 : List PV), (cl n f_scarfref15_Handles [.agg [i64 a0_Kind, .sl a0_Namesu a0_Namesn a0_Namesc, .sl a0_Lu a0_Ln a0_Lc, i64 a0_R], .agg [i64 a1_N, .sl a1_Su a1_Sn a1_Sc, .sl a1_Lu a1_Ln a1_Lc]] ⟨[], 0⟩ = some (.tup [.sl v11 v12 v13, .sl v14 v15 v16], ⟨[], 0⟩)) ∧
        br (!(decide (((v4 : Nat) : Int) = ((v12 : Nat) : Int))))
        (Q (.s (.bool false)) ⟨[], 0⟩)
        (L_scarflaw15_ValueHandles_0 n n v3 v4 v5 v6 v7 v8 v11 v12 v13 v14 v15 v16 (0) Q)))) :
  Ret cfg (n + 1) f_scarflaw15_ValueHandles [.agg [i64 a0_Kind, .sl a0_Namesu a0_Namesn a0_Namesc, .sl a0_Lu a0_Ln a0_Lc, i64 a0_R], .agg [i64 a1_N, .sl a1_Su a1_Sn a1_Sc, .sl a1_Lu a1_Ln a1_Lc]] ⟨[], 0⟩ Q :=
  vcRun_eq (fn := Tryz.f4) (asks := asks_scarflaw15_ValueHandles) (by kernel_rfl) (by kernel_rfl) (by kernel_rfl) (by kernel_rfl) (by kernel_rfl) h
theorem lp_scarflaw15_ValueHandles_0 (n m : Nat) (x0_0 : Bool) (x0_1 : Nat) (x0_2 : List PV) (x0_3 : Bool) (x0_4 : Nat) (x0_5 : List PV) (x0_6 : Bool) (x0_7 : Nat) (x0_8 : List PV) (x0_9 : Bool) (x0_10 : Nat) (x0_11 : List PV) (x0_12 : Int) (Q : PV → Store → Prop)
  (h :
    br (decide (x0_12 < ((x0_1 : Nat) : Int)))
    (((0 : Int) ≤ x0_12 ∧ x0_12 < ((x0_1 : Nat) : Int) ∧ Int.toNat x0_12 * 4 < (x0_2 : List PV).length) ∧
      ∃ (v1 : Int), (ld prog t_int x0_2 ((Int.toNat x0_12 * 4) + 0) (i64 v1)) ∧
      ((0 : Int) ≤ x0_12 ∧ x0_12 < ((x0_7 : Nat) : Int) ∧ Int.toNat x0_12 * 4 < (x0_8 : List PV).length) ∧
      ∃ (v2 : Int), (ld prog t_int x0_8 ((Int.toNat x0_12 * 4) + 0) (i64 v2)) ∧
      br (!(decide (v1 = v2)))
      (Q (.s (.bool false)) ⟨[], 0⟩)
      (((0 : Int) ≤ x0_12 ∧ x0_12 < ((x0_1 : Nat) : Int) ∧ Int.toNat x0_12 * 4 < (x0_2 : List PV).length) ∧
        ∃ (v3 : Int), (ld prog t_int x0_2 ((Int.toNat x0_12 * 4) + 3) (i64 v3)) ∧
        ((0 : Int) ≤ x0_12 ∧ x0_12 < ((x0_7 : Nat) : Int) ∧ Int.toNat x0_12 * 4 < (x0_8 : List PV).length) ∧
        ∃ (v4 : Int), (ld prog t_int x0_8 ((Int.toNat x0_12 * 4) + 3) (i64 v4)) ∧
        br (!(decide (v3 = v4)))
        (Q (.s (.bool false)) ⟨[], 0⟩)
        (L_scarflaw15_ValueHandles_0 n m x0_0 x0_1 x0_2 x0_3 x0_4 x0_5 x0_6 x0_7 x0_8 x0_9 x0_10 x0_11 (IntKind.i64.wrap (x0_12 + (1))) Q)))
    (∃ (v5 : Bool), (cl n f_scarfref01_Same [.sl x0_3 x0_4 x0_5, .sl x0_9 x0_10 x0_11] ⟨[], 0⟩ = some (.s (.bool v5), ⟨[], 0⟩)) ∧
      br v5
      (∃ (v6 : Bool), (cl n f_scarflaw15_awake [] ⟨[], 0⟩ = some (.s (.bool v6), ⟨[], 0⟩)) ∧
        Q (.s (.bool v6)) ⟨[], 0⟩)
      (Q (.s (.bool false)) ⟨[], 0⟩))) :
  L_scarflaw15_ValueHandles_0 n (m + 1) x0_0 x0_1 x0_2 x0_3 x0_4 x0_5 x0_6 x0_7 x0_8 x0_9 x0_10 x0_11 x0_12 Q := by
  unfold L_scarflaw15_ValueHandles_0
  exact Ends_eq (asks := asks_scarflaw15_ValueHandles) (by kernel_rfl) h
/-! ### scarf/scarflaw15.ValueTurns -/
def asks_scarflaw15_ValueTurns : Asks := [(1001, .told (.sh (.one (.bool)))), (2000, .told (.sh (.one (.bool)))), (3003, .told (.tup [.agg [.int .i64, .sl, .sl], .one (.int .i64)])), (4002, .told (.sh (.one (.int .i64)))), (6006, .told (.sh (.one (.bool)))), (6009, .told (.sh (.one (.bool)))), (7002, .told (.tup [.one (.sl), .one (.sl)])), (12004, .cond), (12005, .told (.sh (.one (.int .i64)))), (12011, .cond), (12012, .told (.sh (.one (.int .i64)))), (14005, .told (.sh (.one (.bool)))), (14008, .told (.sh (.one (.bool)))), (15003, .told (.tup [.agg [.int .i64, .sl, .sl], .one (.sl)])), (16002, .told (.tup [.one (.sl), .one (.sl)])), (17005, .told (.sh (.one (.bool)))), (17010, .told (.sh (.one (.bool)))), (17015, .told (.sh (.one (.int .i64)))), (17019, .told (.sh (.one (.bool))))]
@[irreducible] noncomputable def L_scarflaw15_ValueTurns_0 (n m : Nat) (a0_Kind : Int) (a0_Namesu : Bool) (a0_Namesn : Nat) (a0_Namesc : List PV) (a0_Lu : Bool) (a0_Ln : Nat) (a0_Lc : List PV) (a0_R : Int) (a1_N : Int) (a1_Su : Bool) (a1_Sn : Nat) (a1_Sc : List PV) (a1_Lu : Bool) (a1_Ln : Nat) (a1_Lc : List PV) (a2u : Bool) (a2n : Nat) (a2c : List PV) (x0_0 : Int) (x0_1 : Bool) (x0_2 : Int) (x0_3 : Int) (x0_4 : Bool) (x0_5 : Nat) (x0_6 : List PV) (x0_7 : Bool) (x0_8 : Nat) (x0_9 : List PV) (Q : PV → Store → Prop) : Prop := Pvm.Ends cfg (cl n) f_scarflaw15_ValueTurns n (codeAt (bodyOf Tryz.f5) [1, 1, 1, 1, 1, 1, 1, 0, 1, 0]) m
  { regs := [(2, .v (.sl a2u a2n a2c)), (3, .loc 3 0), (4, .loc 4 0), (7, .loc 7 0), (8, .v (i64 x0_0)), (12, .v (.s (.bool x0_1))), (13, .v (i64 x0_2))], st := ⟨[(3, [i64 a0_Kind, .sl a0_Namesu a0_Namesn a0_Namesc, .sl a0_Lu a0_Ln a0_Lc, i64 a0_R]), (4, [i64 a1_N, .sl a1_Su a1_Sn a1_Sc, .sl a1_Lu a1_Ln a1_Lc]), (7, [i64 x0_3, .sl x0_4 x0_5 x0_6, .sl x0_7 x0_8 x0_9])], ⟨[], 0⟩⟩, nt := 128 }
  (contC cfg (cl n) f_scarflaw15_ValueTurns n asks_scarflaw15_ValueTurns (bodyOf Tryz.f5) [1, 1, 1, 1, 1, 1, 1, 0, 1, 0] [] (retK cfg Tryz.f5 Q))
theorem vc_scarflaw15_ValueTurns (n : Nat) (a0_Kind : Int) (a0_Namesu : Bool) (a0_Namesn : Nat) (a0_Namesc : List PV) (a0_Lu : Bool) (a0_Ln : Nat) (a0_Lc : List PV) (a0_R : Int) (a1_N : Int) (a1_Su : Bool) (a1_Sn : Nat) (a1_Sc : List PV) (a1_Lu : Bool) (a1_Ln : Nat) (a1_Lc : List PV) (a2u : Bool) (a2n : Nat) (a2c : List PV) (Q : PV → Store → Prop)
  (h :
    ∃ (v1 : Bool), (cl n f_scarflaw15_Light [.agg [i64 a1_N, .sl a1_Su a1_Sn a1_Sc, .sl a1_Lu a1_Ln a1_Lc]] ⟨[], 0⟩ = some (.s (.bool v1), ⟨[], 0⟩)) ∧
    br (!v1)
    (∃ (v2 : Bool), (cl n f_scarflaw15_awake [] ⟨[], 0⟩ = some (.s (.bool v2), ⟨[], 0⟩)) ∧
      Q (.s (.bool v2)) ⟨[], 0⟩)
    (br (decide (((a2n : Nat) : Int) > (5000)))
      (∃ (v3 : Bool), (cl n f_scarflaw15_awake [] ⟨[], 0⟩ = some (.s (.bool v3), ⟨[], 0⟩)) ∧
        Q (.s (.bool v3)) ⟨[], 0⟩)
      (∃ (v4 : Int) (v5 : Bool) (v6 : Nat) (v7 : List PV) (v8 : Bool) (v9 : Nat) (v10 : List PV) (v11 : Int), (cl n f_value_With [.agg [i64 a0_Kind, .sl a0_Namesu a0_Namesn a0_Namesc, .sl a0_Lu a0_Ln a0_Lc, i64 a0_R], .agg [i64 a1_N, .sl a1_Su a1_Sn a1_Sc, .sl a1_Lu a1_Ln a1_Lc], .sl a2u a2n a2c] ⟨[], 0⟩ = some (.tup [.agg [i64 v4, .sl v5 v6 v7, .sl v8 v9 v10], i64 v11], ⟨[], 0⟩)) ∧
        ∃ (v12 : Int), (cl n f_scarfref15_Check [.agg [i64 a0_Kind, .sl a0_Namesu a0_Namesn a0_Namesc, .sl a0_Lu a0_Ln a0_Lc, i64 a0_R], .agg [i64 a1_N, .sl a1_Su a1_Sn a1_Sc, .sl a1_Lu a1_Ln a1_Lc]] ⟨[], 0⟩ = some (i64 v12, ⟨[], 0⟩)) ∧
        br (!(decide (v12 = (0))))
        (br (decide (v11 = v12))
          (∃ (v13 : Bool), (cl n f_value_Same [.agg [i64 v4, .sl v5 v6 v7, .sl v8 v9 v10], .agg [i64 (0), .sl true 0 [], .sl true 0 []]] ⟨[], 0⟩ = some (.s (.bool v13), ⟨[], 0⟩)) ∧
            br v13
            (∃ (v14 : Bool), (cl n f_scarflaw15_awake [] ⟨[], 0⟩ = some (.s (.bool v14), ⟨[], 0⟩)) ∧
              Q (.s (.bool v14)) ⟨[], 0⟩)
            (Q (.s (.bool false)) ⟨[], 0⟩))
          (Q (.s (.bool false)) ⟨[], 0⟩))
        (∃ (v15 : Bool) (v16 : Nat) (v17 : List PV) (v18 : Bool) (v19 : Nat) (v20 : List PV), (cl n f_scarfref15_Handles [.agg [i64 a0_Kind, .sl a0_Namesu a0_Namesn a0_Namesc, .sl a0_Lu a0_Ln a0_Lc, i64 a0_R], .agg [i64 a1_N, .sl a1_Su a1_Sn a1_Sc, .sl a1_Lu a1_Ln a1_Lc]] ⟨[], 0⟩ = some (.tup [.sl v15 v16 v17, .sl v18 v19 v20], ⟨[], 0⟩)) ∧
          L_scarflaw15_ValueTurns_0 n n a0_Kind a0_Namesu a0_Namesn a0_Namesc a0_Lu a0_Ln a0_Lc a0_R a1_N a1_Su a1_Sn a1_Sc a1_Lu a1_Ln a1_Lc a2u a2n a2c v11 (decide (((v19 : Nat) : Int) = ((a2n : Nat) : Int))) (0) v4 v5 v6 v7 v8 v9 v10 Q)))) :
  Ret cfg (n + 1) f_scarflaw15_ValueTurns [.agg [i64 a0_Kind, .sl a0_Namesu a0_Namesn a0_Namesc, .sl a0_Lu a0_Ln a0_Lc, i64 a0_R], .agg [i64 a1_N, .sl a1_Su a1_Sn a1_Sc, .sl a1_Lu a1_Ln a1_Lc], .sl a2u a2n a2c] ⟨[], 0⟩ Q :=
  vcRun_eq (fn := Tryz.f5) (asks := asks_scarflaw15_ValueTurns) (by kernel_rfl) (by kernel_rfl) (by kernel_rfl) (by kernel_rfl) (by kernel_rfl) h
theorem lp_scarflaw15_ValueTurns_0 (n m : Nat) (a0_Kind : Int) (a0_Namesu : Bool) (a0_Namesn : Nat) (a0_Namesc : List PV) (a0_Lu : Bool) (a0_Ln : Nat) (a0_Lc : List PV) (a0_R : Int) (a1_N : Int) (a1_Su : Bool) (a1_Sn : Nat) (a1_Sc : List PV) (a1_Lu : Bool) (a1_Ln : Nat) (a1_Lc : List PV) (a2u : Bool) (a2n : Nat) (a2c : List PV) (x0_0 : Int) (x0_1 : Bool) (x0_2 : Int) (x0_3 : Int) (x0_4 : Bool) (x0_5 : Nat) (x0_6 : List PV) (x0_7 : Bool) (x0_8 : Nat) (x0_9 : List PV) (Q : PV → Store → Prop)
  (h :
    br (decide (x0_2 < ((a2n : Nat) : Int)))
    (br x0_1
      (((0 : Int) ≤ x0_2 ∧ x0_2 < ((a2n : Nat) : Int) ∧ Int.toNat x0_2 * 1 < (a2c : List PV).length) ∧
        ∃ (v1 : Int), (ld prog t_int a2c (Int.toNat x0_2 * 1) (i64 v1)) ∧
        br (decide (v1 ≥ (0)))
        (((0 : Int) ≤ x0_2 ∧ x0_2 < ((a2n : Nat) : Int) ∧ Int.toNat x0_2 * 1 < (a2c : List PV).length) ∧
          ∃ (v2 : Int), (ld prog t_int a2c (Int.toNat x0_2 * 1) (i64 v2)) ∧
          L_scarflaw15_ValueTurns_0 n m a0_Kind a0_Namesu a0_Namesn a0_Namesc a0_Lu a0_Ln a0_Lc a0_R a1_N a1_Su a1_Sn a1_Sc a1_Lu a1_Ln a1_Lc a2u a2n a2c x0_0 (decide (v2 < (4294967296))) (IntKind.i64.wrap (x0_2 + (1))) x0_3 x0_4 x0_5 x0_6 x0_7 x0_8 x0_9 Q)
        (L_scarflaw15_ValueTurns_0 n m a0_Kind a0_Namesu a0_Namesn a0_Namesc a0_Lu a0_Ln a0_Lc a0_R a1_N a1_Su a1_Sn a1_Sc a1_Lu a1_Ln a1_Lc a2u a2n a2c x0_0 false (IntKind.i64.wrap (x0_2 + (1))) x0_3 x0_4 x0_5 x0_6 x0_7 x0_8 x0_9 Q))
      (L_scarflaw15_ValueTurns_0 n m a0_Kind a0_Namesu a0_Namesn a0_Namesc a0_Lu a0_Ln a0_Lc a0_R a1_N a1_Su a1_Sn a1_Sc a1_Lu a1_Ln a1_Lc a2u a2n a2c x0_0 false (IntKind.i64.wrap (x0_2 + (1))) x0_3 x0_4 x0_5 x0_6 x0_7 x0_8 x0_9 Q))
    (br (!x0_1)
      (br (decide (x0_0 = (1)))
        (∃ (v3 : Bool), (cl n f_value_Same [.agg [i64 x0_3, .sl x0_4 x0_5 x0_6, .sl x0_7 x0_8 x0_9], .agg [i64 (0), .sl true 0 [], .sl true 0 []]] ⟨[], 0⟩ = some (.s (.bool v3), ⟨[], 0⟩)) ∧
          br v3
          (∃ (v4 : Bool), (cl n f_scarflaw15_awake [] ⟨[], 0⟩ = some (.s (.bool v4), ⟨[], 0⟩)) ∧
            Q (.s (.bool v4)) ⟨[], 0⟩)
          (Q (.s (.bool false)) ⟨[], 0⟩))
        (Q (.s (.bool false)) ⟨[], 0⟩))
      (∃ (v5 : Int) (v6 : Bool) (v7 : Nat) (v8 : List PV) (v9 : Bool) (v10 : Nat) (v11 : List PV) (v12 : Bool) (v13 : Nat) (v14 : List PV), (cl n f_scarfref15_With [.agg [i64 a0_Kind, .sl a0_Namesu a0_Namesn a0_Namesc, .sl a0_Lu a0_Ln a0_Lc, i64 a0_R], .agg [i64 a1_N, .sl a1_Su a1_Sn a1_Sc, .sl a1_Lu a1_Ln a1_Lc], .sl a2u a2n a2c] ⟨[], 0⟩ = some (.tup [.agg [i64 v5, .sl v6 v7 v8, .sl v9 v10 v11], .sl v12 v13 v14], ⟨[], 0⟩)) ∧
        ∃ (v15 : Bool) (v16 : Nat) (v17 : List PV) (v18 : Bool) (v19 : Nat) (v20 : List PV), (cl n f_value_Handles [.agg [i64 a0_Kind, .sl a0_Namesu a0_Namesn a0_Namesc, .sl a0_Lu a0_Ln a0_Lc, i64 a0_R], .agg [i64 x0_3, .sl x0_4 x0_5 x0_6, .sl x0_7 x0_8 x0_9]] ⟨[], 0⟩ = some (.tup [.sl v15 v16 v17, .sl v18 v19 v20], ⟨[], 0⟩)) ∧
        br (decide (x0_0 = (0)))
        (∃ (v21 : Bool), (cl n f_scarfref15_Same [.agg [i64 x0_3, .sl x0_4 x0_5 x0_6, .sl x0_7 x0_8 x0_9], .agg [i64 v5, .sl v6 v7 v8, .sl v9 v10 v11]] ⟨[], 0⟩ = some (.s (.bool v21), ⟨[], 0⟩)) ∧
          br v21
          (∃ (v22 : Bool), (cl n f_scarfref01_Same [.sl v18 v19 v20, .sl a2u a2n a2c] ⟨[], 0⟩ = some (.s (.bool v22), ⟨[], 0⟩)) ∧
            br v22
            (∃ (v23 : Int), (cl n f_value_Check [.agg [i64 a0_Kind, .sl a0_Namesu a0_Namesn a0_Namesc, .sl a0_Lu a0_Ln a0_Lc, i64 a0_R], .agg [i64 x0_3, .sl x0_4 x0_5 x0_6, .sl x0_7 x0_8 x0_9]] ⟨[], 0⟩ = some (i64 v23, ⟨[], 0⟩)) ∧
              br (decide (v23 = (0)))
              (∃ (v24 : Bool), (cl n f_scarflaw15_awake [] ⟨[], 0⟩ = some (.s (.bool v24), ⟨[], 0⟩)) ∧
                Q (.s (.bool v24)) ⟨[], 0⟩)
              (Q (.s (.bool false)) ⟨[], 0⟩))
            (Q (.s (.bool false)) ⟨[], 0⟩))
          (Q (.s (.bool false)) ⟨[], 0⟩))
        (Q (.s (.bool false)) ⟨[], 0⟩)))) :
  L_scarflaw15_ValueTurns_0 n (m + 1) a0_Kind a0_Namesu a0_Namesn a0_Namesc a0_Lu a0_Ln a0_Lc a0_R a1_N a1_Su a1_Sn a1_Sc a1_Lu a1_Ln a1_Lc a2u a2n a2c x0_0 x0_1 x0_2 x0_3 x0_4 x0_5 x0_6 x0_7 x0_8 x0_9 Q := by
  unfold L_scarflaw15_ValueTurns_0
  exact Ends_eq (asks := asks_scarflaw15_ValueTurns) (by kernel_rfl) h
/-! ### scarf/scarflaw15.Light -/
def asks_scarflaw15_Light : Asks := [(1001, .told (.sh (.one (.int .i64))))]
theorem vc_scarflaw15_Light (n : Nat) (a0_N : Int) (a0_Su : Bool) (a0_Sn : Nat) (a0_Sc : List PV) (a0_Lu : Bool) (a0_Ln : Nat) (a0_Lc : List PV) (Q : PV → Store → Prop)
  (h :
    ∃ (v1 : Int), (cl n f_scarflaw15_weigh [.agg [i64 a0_N, .sl a0_Su a0_Sn a0_Sc, .sl a0_Lu a0_Ln a0_Lc], i64 (0)] ⟨[], 0⟩ = some (i64 v1, ⟨[], 0⟩)) ∧
    Q (.s (.bool (decide (v1 ≤ (20000))))) ⟨[], 0⟩) :
  Ret cfg (n + 1) f_scarflaw15_Light [.agg [i64 a0_N, .sl a0_Su a0_Sn a0_Sc, .sl a0_Lu a0_Ln a0_Lc]] ⟨[], 0⟩ Q :=
  vcRun_eq (fn := Tryz.f7) (asks := asks_scarflaw15_Light) (by kernel_rfl) (by kernel_rfl) (by kernel_rfl) (by kernel_rfl) (by kernel_rfl) h
/-! ### scarf/scarflaw15.weigh -/
def asks_scarflaw15_weigh : Asks := [(7004, .cond), (7005, .told (.sh (.agg [.int .i64, .sl, .sl]))), (7008, .told (.sh (.one (.int .i64))))]
@[irreducible] noncomputable def L_scarflaw15_weigh_0 (n m : Nat) (a0_N : Int) (a0_Su : Bool) (a0_Sn : Nat) (a0_Sc : List PV) (a0_Lu : Bool) (a0_Ln : Nat) (a0_Lc : List PV) (a1 : Int) (x0_0 : Int) (x0_1 : Int) (Q : PV → Store → Prop) : Prop := Pvm.Ends cfg (cl n) f_scarflaw15_weigh n (codeAt (bodyOf Tryz.f20) [1, 1, 1, 0, 1, 0]) m
  { regs := [(1, .v (i64 a1)), (2, .loc 2 0), (5, .v (i64 x0_0)), (6, .v (i64 x0_1))], st := ⟨[(2, [i64 a0_N, .sl a0_Su a0_Sn a0_Sc, .sl a0_Lu a0_Ln a0_Lc])], ⟨[], 0⟩⟩, nt := 47 }
  (contC cfg (cl n) f_scarflaw15_weigh n asks_scarflaw15_weigh (bodyOf Tryz.f20) [1, 1, 1, 0, 1, 0] [] (retK cfg Tryz.f20 Q))
theorem vc_scarflaw15_weigh (n : Nat) (a0_N : Int) (a0_Su : Bool) (a0_Sn : Nat) (a0_Sc : List PV) (a0_Lu : Bool) (a0_Ln : Nat) (a0_Lc : List PV) (a1 : Int) (Q : PV → Store → Prop)
  (h :
    br (decide (a1 > (20)))
    (Q (i64 (1073741824)) ⟨[], 0⟩)
    (br (decide (((a0_Sn : Nat) : Int) > (20000)))
      (Q (i64 (1073741824)) ⟨[], 0⟩)
      (br (decide (((a0_Ln : Nat) : Int) > (20000)))
        (Q (i64 (1073741824)) ⟨[], 0⟩)
        (L_scarflaw15_weigh_0 n n a0_N a0_Su a0_Sn a0_Sc a0_Lu a0_Ln a0_Lc a1 (IntKind.i64.wrap ((1) + ((a0_Sn : Nat) : Int))) (0) Q)))) :
  Ret cfg (n + 1) f_scarflaw15_weigh [.agg [i64 a0_N, .sl a0_Su a0_Sn a0_Sc, .sl a0_Lu a0_Ln a0_Lc], i64 a1] ⟨[], 0⟩ Q :=
  vcRun_eq (fn := Tryz.f20) (asks := asks_scarflaw15_weigh) (by kernel_rfl) (by kernel_rfl) (by kernel_rfl) (by kernel_rfl) (by kernel_rfl) h
theorem lp_scarflaw15_weigh_0 (n m : Nat) (a0_N : Int) (a0_Su : Bool) (a0_Sn : Nat) (a0_Sc : List PV) (a0_Lu : Bool) (a0_Ln : Nat) (a0_Lc : List PV) (a1 : Int) (x0_0 : Int) (x0_1 : Int) (Q : PV → Store → Prop)
  (h :
    br (decide (x0_1 < ((a0_Ln : Nat) : Int)))
    (br (decide (x0_0 ≤ (20000)))
      (((0 : Int) ≤ x0_1 ∧ x0_1 < ((a0_Ln : Nat) : Int) ∧ Int.toNat x0_1 * 3 < (a0_Lc : List PV).length) ∧
        ∃ (v1 : Int) (v2 : Bool) (v3 : Nat) (v4 : List PV) (v5 : Bool) (v6 : Nat) (v7 : List PV), (ld prog t_api_Val a0_Lc (Int.toNat x0_1 * 3) (.agg [i64 v1, .sl v2 v3 v4, .sl v5 v6 v7])) ∧
        ∃ (v8 : Int), (cl n f_scarflaw15_weigh [.agg [i64 v1, .sl v2 v3 v4, .sl v5 v6 v7], i64 (IntKind.i64.wrap (a1 + (1)))] ⟨[], 0⟩ = some (i64 v8, ⟨[], 0⟩)) ∧
        L_scarflaw15_weigh_0 n m a0_N a0_Su a0_Sn a0_Sc a0_Lu a0_Ln a0_Lc a1 (IntKind.i64.wrap (x0_0 + v8)) (IntKind.i64.wrap (x0_1 + (1))) Q)
      (Q (i64 x0_0) ⟨[], 0⟩))
    (Q (i64 x0_0) ⟨[], 0⟩)) :
  L_scarflaw15_weigh_0 n (m + 1) a0_N a0_Su a0_Sn a0_Sc a0_Lu a0_Ln a0_Lc a1 x0_0 x0_1 Q := by
  unfold L_scarflaw15_weigh_0
  exact Ends_eq (asks := asks_scarflaw15_weigh) (by kernel_rfl) h
/-! ### scarf/value.Args -/
def asks_value_Args : Asks := [(1001, .told (.sh (.one (.int .i64)))), (3010, .told (.sh (.one (.int .i64))))]
theorem vc_value_Args (n : Nat) (a0_Name : ByteArray) (a0_Pu : Bool) (a0_Pn : Nat) (a0_Pc : List PV) (a0_Tu : Bool) (a0_Tn : Nat) (a0_Tc : List PV) (a0_R_Kind : Int) (a0_R_Namesu : Bool) (a0_R_Namesn : Nat) (a0_R_Namesc : List PV) (a0_R_Lu : Bool) (a0_R_Ln : Nat) (a0_R_Lc : List PV) (a0_R_R : Int) (a1u : Bool) (a1n : Nat) (a1c : List PV) (Q : PV → Store → Prop)
  (h :
    ∃ (v1 : Int), (cl n f_ctype_CheckSig [.agg [.s (.string a0_Name), .sl a0_Pu a0_Pn a0_Pc, .sl a0_Tu a0_Tn a0_Tc, i64 a0_R_Kind, .sl a0_R_Namesu a0_R_Namesn a0_R_Namesc, .sl a0_R_Lu a0_R_Ln a0_R_Lc, i64 a0_R_R]] ⟨[], 0⟩ = some (i64 v1, ⟨[], 0⟩)) ∧
    br (!(decide (v1 = (0))))
    (Q (i64 (1)) ⟨[], 0⟩)
    (br (!(decide (((a1n : Nat) : Int) = ((a0_Tn : Nat) : Int))))
      (Q (i64 (6)) ⟨[], 0⟩)
      (∃ (v2 : Int), (cl n f_value_all [.sl a0_Tu a0_Tn a0_Tc, .sl a1u a1n a1c] ⟨[], 0⟩ = some (i64 v2, ⟨[], 0⟩)) ∧
        br (decide (v2 = (0)))
        (Q (i64 (6)) ⟨[], 0⟩)
        (Q (i64 (0)) ⟨[], 0⟩)))) :
  Ret cfg (n + 1) f_value_Args [.agg [.s (.string a0_Name), .sl a0_Pu a0_Pn a0_Pc, .sl a0_Tu a0_Tn a0_Tc, i64 a0_R_Kind, .sl a0_R_Namesu a0_R_Namesn a0_R_Namesc, .sl a0_R_Lu a0_R_Ln a0_R_Lc, i64 a0_R_R], .sl a1u a1n a1c] ⟨[], 0⟩ Q :=
  vcRun_eq (fn := Tryz.f8) (asks := asks_value_Args) (by kernel_rfl) (by kernel_rfl) (by kernel_rfl) (by kernel_rfl) (by kernel_rfl) h
/-! ### scarf/scarfref15.Args -/
def asks_scarfref15_Args : Asks := [(1001, .told (.sh (.one (.bool)))), (3010, .told (.sh (.one (.int .i64))))]
theorem vc_scarfref15_Args (n : Nat) (a0_Name : ByteArray) (a0_Pu : Bool) (a0_Pn : Nat) (a0_Pc : List PV) (a0_Tu : Bool) (a0_Tn : Nat) (a0_Tc : List PV) (a0_R_Kind : Int) (a0_R_Namesu : Bool) (a0_R_Namesn : Nat) (a0_R_Namesc : List PV) (a0_R_Lu : Bool) (a0_R_Ln : Nat) (a0_R_Lc : List PV) (a0_R_R : Int) (a1u : Bool) (a1n : Nat) (a1c : List PV) (Q : PV → Store → Prop)
  (h :
    ∃ (v1 : Bool), (cl n f_scarfref13_MaySig [.agg [.s (.string a0_Name), .sl a0_Pu a0_Pn a0_Pc, .sl a0_Tu a0_Tn a0_Tc, i64 a0_R_Kind, .sl a0_R_Namesu a0_R_Namesn a0_R_Namesc, .sl a0_R_Lu a0_R_Ln a0_R_Lc, i64 a0_R_R]] ⟨[], 0⟩ = some (.s (.bool v1), ⟨[], 0⟩)) ∧
    br (!v1)
    (Q (i64 (1)) ⟨[], 0⟩)
    (br (!(decide (((a1n : Nat) : Int) = ((a0_Tn : Nat) : Int))))
      (Q (i64 (6)) ⟨[], 0⟩)
      (∃ (v2 : Int), (cl n f_scarfref15_sum [.sl a0_Tu a0_Tn a0_Tc, .sl a1u a1n a1c] ⟨[], 0⟩ = some (i64 v2, ⟨[], 0⟩)) ∧
        br (decide (v2 = (0)))
        (Q (i64 (6)) ⟨[], 0⟩)
        (Q (i64 (0)) ⟨[], 0⟩)))) :
  Ret cfg (n + 1) f_scarfref15_Args [.agg [.s (.string a0_Name), .sl a0_Pu a0_Pn a0_Pc, .sl a0_Tu a0_Tn a0_Tc, i64 a0_R_Kind, .sl a0_R_Namesu a0_R_Namesn a0_R_Namesc, .sl a0_R_Lu a0_R_Ln a0_R_Lc, i64 a0_R_R], .sl a1u a1n a1c] ⟨[], 0⟩ Q :=
  vcRun_eq (fn := Tryz.f9) (asks := asks_scarfref15_Args) (by kernel_rfl) (by kernel_rfl) (by kernel_rfl) (by kernel_rfl) (by kernel_rfl) h
/-! ### scarf/value.Handles -/
def asks_value_Handles : Asks := [(1002, .told (.sh (.one (.int .i64)))), (3002, .told (.tup [.one (.sl), .one (.sl)]))]
theorem vc_value_Handles (n : Nat) (a0_Kind : Int) (a0_Namesu : Bool) (a0_Namesn : Nat) (a0_Namesc : List PV) (a0_Lu : Bool) (a0_Ln : Nat) (a0_Lc : List PV) (a0_R : Int) (a1_N : Int) (a1_Su : Bool) (a1_Sn : Nat) (a1_Sc : List PV) (a1_Lu : Bool) (a1_Ln : Nat) (a1_Lc : List PV) (Q : PV → Store → Prop)
  (h :
    ∃ (v1 : Int), (cl n f_value_Check [.agg [i64 a0_Kind, .sl a0_Namesu a0_Namesn a0_Namesc, .sl a0_Lu a0_Ln a0_Lc, i64 a0_R], .agg [i64 a1_N, .sl a1_Su a1_Sn a1_Sc, .sl a1_Lu a1_Ln a1_Lc]] ⟨[], 0⟩ = some (i64 v1, ⟨[], 0⟩)) ∧
    br (!(decide (v1 = (0))))
    (Q (.tup [.sl true 0 [], .sl true 0 []]) ⟨[], 0⟩)
    (∃ (v2 : Bool) (v3 : Nat) (v4 : List PV) (v5 : Bool) (v6 : Nat) (v7 : List PV), (cl n f_value_handles [.agg [i64 a0_Kind, .sl a0_Namesu a0_Namesn a0_Namesc, .sl a0_Lu a0_Ln a0_Lc, i64 a0_R], .agg [i64 a1_N, .sl a1_Su a1_Sn a1_Sc, .sl a1_Lu a1_Ln a1_Lc]] ⟨[], 0⟩ = some (.tup [.sl v2 v3 v4, .sl v5 v6 v7], ⟨[], 0⟩)) ∧
      Q (.tup [.sl v2 v3 v4, .sl v5 v6 v7]) ⟨[], 0⟩)) :
  Ret cfg (n + 1) f_value_Handles [.agg [i64 a0_Kind, .sl a0_Namesu a0_Namesn a0_Namesc, .sl a0_Lu a0_Ln a0_Lc, i64 a0_R], .agg [i64 a1_N, .sl a1_Su a1_Sn a1_Sc, .sl a1_Lu a1_Ln a1_Lc]] ⟨[], 0⟩ Q :=
  vcRun_eq (fn := Tryz.f10) (asks := asks_value_Handles) (by kernel_rfl) (by kernel_rfl) (by kernel_rfl) (by kernel_rfl) (by kernel_rfl) h
/-! ### scarf/scarfref15.Check -/
def asks_scarfref15_Check : Asks := [(1001, .told (.sh (.one (.bool)))), (3002, .told (.sh (.one (.int .i64))))]
theorem vc_scarfref15_Check (n : Nat) (a0_Kind : Int) (a0_Namesu : Bool) (a0_Namesn : Nat) (a0_Namesc : List PV) (a0_Lu : Bool) (a0_Ln : Nat) (a0_Lc : List PV) (a0_R : Int) (a1_N : Int) (a1_Su : Bool) (a1_Sn : Nat) (a1_Sc : List PV) (a1_Lu : Bool) (a1_Ln : Nat) (a1_Lc : List PV) (Q : PV → Store → Prop)
  (h :
    ∃ (v1 : Bool), (cl n f_scarfref13_May [.agg [i64 a0_Kind, .sl a0_Namesu a0_Namesn a0_Namesc, .sl a0_Lu a0_Ln a0_Lc, i64 a0_R]] ⟨[], 0⟩ = some (.s (.bool v1), ⟨[], 0⟩)) ∧
    br (!v1)
    (Q (i64 (1)) ⟨[], 0⟩)
    (∃ (v2 : Int), (cl n f_scarfref15_Parts [.agg [i64 a0_Kind, .sl a0_Namesu a0_Namesn a0_Namesc, .sl a0_Lu a0_Ln a0_Lc, i64 a0_R], .agg [i64 a1_N, .sl a1_Su a1_Sn a1_Sc, .sl a1_Lu a1_Ln a1_Lc]] ⟨[], 0⟩ = some (i64 v2, ⟨[], 0⟩)) ∧
      br (decide (v2 = (0)))
      (Q (i64 (6)) ⟨[], 0⟩)
      (Q (i64 (0)) ⟨[], 0⟩))) :
  Ret cfg (n + 1) f_scarfref15_Check [.agg [i64 a0_Kind, .sl a0_Namesu a0_Namesn a0_Namesc, .sl a0_Lu a0_Ln a0_Lc, i64 a0_R], .agg [i64 a1_N, .sl a1_Su a1_Sn a1_Sc, .sl a1_Lu a1_Ln a1_Lc]] ⟨[], 0⟩ Q :=
  vcRun_eq (fn := Tryz.f11) (asks := asks_scarfref15_Check) (by kernel_rfl) (by kernel_rfl) (by kernel_rfl) (by kernel_rfl) (by kernel_rfl) h
/-! ### scarf/scarfref15.Handles -/
def asks_scarfref15_Handles : Asks := [(5002, .told (.tup [.one (.sl), .one (.bool)])), (9002, .cond), (9003, .told (.sh (.agg [.int .i64, .sl, .sl, .int .i64]))), (9007, .cond), (9008, .told (.sh (.agg [.int .i64, .sl, .sl]))), (9009, .told (.tup [.one (.sl), .one (.sl)])), (10002, .cond), (11002, .cond)]
@[irreducible] noncomputable def L_scarfref15_Handles_0 (n m : Nat) (a1_N : Int) (a1_Su : Bool) (a1_Sn : Nat) (a1_Sc : List PV) (a1_Lu : Bool) (a1_Ln : Nat) (a1_Lc : List PV) (x0_0 : Bool) (x0_1 : Nat) (x0_2 : List PV) (Q : PV → Store → Prop) : Prop := Pvm.Ends cfg (cl n) f_scarfref15_Handles n (codeAt (bodyOf Tryz.f12) [1, 1, 1, 1, 1, 0, 1, 0]) m
  { regs := [(3, .loc 3 0), (6, .v (.sl true 0 [])), (7, .v (.sl true 0 [])), (8, .v (.sl x0_0 x0_1 x0_2)), (10, .v (i64 (0)))], st := ⟨[(3, [i64 a1_N, .sl a1_Su a1_Sn a1_Sc, .sl a1_Lu a1_Ln a1_Lc])], ⟨[], 0⟩⟩, nt := 61 }
  (contC cfg (cl n) f_scarfref15_Handles n asks_scarfref15_Handles (bodyOf Tryz.f12) [1, 1, 1, 1, 1, 0, 1, 0] [] (retK cfg Tryz.f12 Q))
@[irreducible] noncomputable def L_scarfref15_Handles_1 (n m : Nat) (a1_N : Int) (a1_Su : Bool) (a1_Sn : Nat) (a1_Sc : List PV) (a1_Lu : Bool) (a1_Ln : Nat) (a1_Lc : List PV) (x1_0 : Nat) (x1_1 : Nat) (x1_2 : Nat) (x1_3 : Bool) (x1_4 : Nat) (x1_5 : List PV) (x1_6 : Int) (x1_7 : List PV) (x1_8 : List PV) (Q : PV → Store → Prop) : Prop := Pvm.Ends cfg (cl n) f_scarfref15_Handles n (codeAt (bodyOf Tryz.f12) [1, 1, 1, 1, 1, 0, 1, 0]) m
  { regs := [(3, .loc 3 0), (6, .v (.bsl 0 x1_0 0 x1_1)), (7, .v (.bsl 1 x1_0 0 x1_2)), (8, .v (.sl x1_3 x1_4 x1_5)), (10, .v (i64 x1_6))], st := ⟨[(3, [i64 a1_N, .sl a1_Su a1_Sn a1_Sc, .sl a1_Lu a1_Ln a1_Lc])], ⟨[(1, ⟨x1_0, 1, x1_7⟩), (0, ⟨x1_0, 4, x1_8⟩)], 2⟩⟩, nt := 61 }
  (contC cfg (cl n) f_scarfref15_Handles n asks_scarfref15_Handles (bodyOf Tryz.f12) [1, 1, 1, 1, 1, 0, 1, 0] [] (retK cfg Tryz.f12 Q))
theorem vc_scarfref15_Handles (n : Nat) (a0_Kind : Int) (a0_Namesu : Bool) (a0_Namesn : Nat) (a0_Namesc : List PV) (a0_Lu : Bool) (a0_Ln : Nat) (a0_Lc : List PV) (a0_R : Int) (a1_N : Int) (a1_Su : Bool) (a1_Sn : Nat) (a1_Sc : List PV) (a1_Lu : Bool) (a1_Ln : Nat) (a1_Lc : List PV) (Q : PV → Store → Prop)
  (h :
    br (decide (a0_Kind ≥ (20)))
    (Q (.tup [.sl true 1 [i64 a0_Kind, .sl a0_Namesu a0_Namesn a0_Namesc, .sl a0_Lu a0_Ln a0_Lc, i64 a0_R], .sl true 1 [i64 a1_N]]) ⟨[], 0⟩)
    (∃ (v1 : Bool) (v2 : Nat) (v3 : List PV) (v4 : Bool), (cl n f_scarfref15_Inside [.agg [i64 a0_Kind, .sl a0_Namesu a0_Namesn a0_Namesc, .sl a0_Lu a0_Ln a0_Lc, i64 a0_R], .agg [i64 a1_N, .sl a1_Su a1_Sn a1_Sc, .sl a1_Lu a1_Ln a1_Lc]] ⟨[], 0⟩ = some (.tup [.sl v1 v2 v3, .s (.bool v4)], ⟨[], 0⟩)) ∧
      L_scarfref15_Handles_0 n n a1_N a1_Su a1_Sn a1_Sc a1_Lu a1_Ln a1_Lc v1 v2 v3 Q)) :
  Ret cfg (n + 1) f_scarfref15_Handles [.agg [i64 a0_Kind, .sl a0_Namesu a0_Namesn a0_Namesc, .sl a0_Lu a0_Ln a0_Lc, i64 a0_R], .agg [i64 a1_N, .sl a1_Su a1_Sn a1_Sc, .sl a1_Lu a1_Ln a1_Lc]] ⟨[], 0⟩ Q :=
  vcRun_eq (fn := Tryz.f12) (asks := asks_scarfref15_Handles) (by kernel_rfl) (by kernel_rfl) (by kernel_rfl) (by kernel_rfl) (by kernel_rfl) h
theorem lp_scarfref15_Handles_0 (n m : Nat) (a1_N : Int) (a1_Su : Bool) (a1_Sn : Nat) (a1_Sc : List PV) (a1_Lu : Bool) (a1_Ln : Nat) (a1_Lc : List PV) (x0_0 : Bool) (x0_1 : Nat) (x0_2 : List PV) (Q : PV → Store → Prop)
  (h :
    br (decide ((0) < ((a1_Ln : Nat) : Int)))
    (br (decide ((0) < ((x0_1 : Nat) : Int)))
      (((0 : Int) ≤ (0) ∧ (0) < ((x0_1 : Nat) : Int) ∧ Int.toNat (0) * 4 < (x0_2 : List PV).length) ∧
        ∃ (v1 : Int) (v2 : Bool) (v3 : Nat) (v4 : List PV) (v5 : Bool) (v6 : Nat) (v7 : List PV) (v8 : Int), (ld prog t_api_Type x0_2 0 (.agg [i64 v1, .sl v2 v3 v4, .sl v5 v6 v7, i64 v8])) ∧
        ((0 : Int) ≤ (0) ∧ (0) < ((a1_Ln : Nat) : Int) ∧ Int.toNat (0) * 3 < (a1_Lc : List PV).length) ∧
        ∃ (v9 : Int) (v10 : Bool) (v11 : Nat) (v12 : List PV) (v13 : Bool) (v14 : Nat) (v15 : List PV), (ld prog t_api_Val a1_Lc 0 (.agg [i64 v9, .sl v10 v11 v12, .sl v13 v14 v15])) ∧
        ∃ (v16 : Bool) (v17 : Nat) (v18 : List PV) (v19 : Bool) (v20 : Nat) (v21 : List PV), (cl n f_scarfref15_Handles [.agg [i64 v1, .sl v2 v3 v4, .sl v5 v6 v7, i64 v8], .agg [i64 v9, .sl v10 v11 v12, .sl v13 v14 v15]] ⟨[], 0⟩ = some (.tup [.sl v16 v17 v18, .sl v19 v20 v21], ⟨[], 0⟩)) ∧
        ((v18 : List PV).length = v17 * 4 ∧ (v18 : List PV).all oneC = true ∧ true = true ∧ ([] : List PV).length = 0 * 4 ∧ ([] : List PV).all oneC = true ∧ (0 + v17) * 64 ≤ 140737488355328 ∧ 0 + v17 ≤ 140737488355328 ∧ (0 = 0 ∨ 0 < v17)) ∧
        ((v21 : List PV).length = v20 * 1 ∧ (v21 : List PV).all oneC = true ∧ true = true ∧ ([] : List PV).length = 0 * 1 ∧ ([] : List PV).all oneC = true ∧ (0 + v20) * 8 ≤ 140737488355328 ∧ 0 + v20 ≤ 140737488355328 ∧ (0 = 0 ∨ 0 < v20)) ∧
        L_scarfref15_Handles_1 n m a1_N a1_Su a1_Sn a1_Sc a1_Lu a1_Ln a1_Lc 0 (0 + v17) (0 + v20) x0_0 x0_1 x0_2 (1) ([] ++ v21) ([] ++ v18) Q)
      (Q (.tup [.sl true 0 [], .sl true 0 []]) ⟨[], 0⟩))
    (Q (.tup [.sl true 0 [], .sl true 0 []]) ⟨[], 0⟩)) :
  L_scarfref15_Handles_0 n (m + 1) a1_N a1_Su a1_Sn a1_Sc a1_Lu a1_Ln a1_Lc x0_0 x0_1 x0_2 Q := by
  unfold L_scarfref15_Handles_0
  exact Ends_eq (asks := asks_scarfref15_Handles) (by kernel_rfl) h
theorem lp_scarfref15_Handles_1 (n m : Nat) (a1_N : Int) (a1_Su : Bool) (a1_Sn : Nat) (a1_Sc : List PV) (a1_Lu : Bool) (a1_Ln : Nat) (a1_Lc : List PV) (x1_0 : Nat) (x1_1 : Nat) (x1_2 : Nat) (x1_3 : Bool) (x1_4 : Nat) (x1_5 : List PV) (x1_6 : Int) (x1_7 : List PV) (x1_8 : List PV) (Q : PV → Store → Prop)
  (h :
    br (decide (x1_6 < ((a1_Ln : Nat) : Int)))
    (br (decide (x1_6 < ((x1_4 : Nat) : Int)))
      (((0 : Int) ≤ x1_6 ∧ x1_6 < ((x1_4 : Nat) : Int) ∧ Int.toNat x1_6 * 4 < (x1_5 : List PV).length) ∧
        ∃ (v1 : Int) (v2 : Bool) (v3 : Nat) (v4 : List PV) (v5 : Bool) (v6 : Nat) (v7 : List PV) (v8 : Int), (ld prog t_api_Type x1_5 (Int.toNat x1_6 * 4) (.agg [i64 v1, .sl v2 v3 v4, .sl v5 v6 v7, i64 v8])) ∧
        ((0 : Int) ≤ x1_6 ∧ x1_6 < ((a1_Ln : Nat) : Int) ∧ Int.toNat x1_6 * 3 < (a1_Lc : List PV).length) ∧
        ∃ (v9 : Int) (v10 : Bool) (v11 : Nat) (v12 : List PV) (v13 : Bool) (v14 : Nat) (v15 : List PV), (ld prog t_api_Val a1_Lc (Int.toNat x1_6 * 3) (.agg [i64 v9, .sl v10 v11 v12, .sl v13 v14 v15])) ∧
        ∃ (v16 : Bool) (v17 : Nat) (v18 : List PV) (v19 : Bool) (v20 : Nat) (v21 : List PV), (cl n f_scarfref15_Handles [.agg [i64 v1, .sl v2 v3 v4, .sl v5 v6 v7, i64 v8], .agg [i64 v9, .sl v10 v11 v12, .sl v13 v14 v15]] ⟨[(1, ⟨x1_0, 1, x1_7⟩), (0, ⟨x1_0, 4, x1_8⟩)], 2⟩ = some (.tup [.sl v16 v17 v18, .sl v19 v20 v21], ⟨[(1, ⟨x1_0, 1, x1_7⟩), (0, ⟨x1_0, 4, x1_8⟩)], 2⟩)) ∧
        ((v18 : List PV).length = v17 * 4 ∧ (v18 : List PV).all oneC = true ∧ x1_0 = x1_0 ∧ 0 = 0 ∧ 4 = 4 ∧ x1_1 * 4 ≤ (x1_8 : List PV).length ∧ ((List.take (x1_1 * 4) x1_8) : List PV).all oneC = true ∧ (x1_1 + v17) * 64 ≤ 140737488355328 ∧ x1_1 + v17 ≤ 140737488355328) ∧
        ((v21 : List PV).length = v20 * 1 ∧ (v21 : List PV).all oneC = true ∧ x1_0 = x1_0 ∧ 0 = 0 ∧ 1 = 1 ∧ x1_2 * 1 ≤ (x1_7 : List PV).length ∧ ((List.take (x1_2 * 1) x1_7) : List PV).all oneC = true ∧ (x1_2 + v20) * 8 ≤ 140737488355328 ∧ x1_2 + v20 ≤ 140737488355328) ∧
        L_scarfref15_Handles_1 n m a1_N a1_Su a1_Sn a1_Sc a1_Lu a1_Ln a1_Lc (x1_0 + 1) (x1_1 + v17) (x1_2 + v20) x1_3 x1_4 x1_5 (IntKind.i64.wrap (x1_6 + (1))) ((List.take (x1_2 * 1) x1_7) ++ v21) ((List.take (x1_1 * 4) x1_8) ++ v18) Q)
      (Q (.tup [.bsl 0 x1_0 0 x1_1, .bsl 1 x1_0 0 x1_2]) ⟨[(1, ⟨x1_0, 1, x1_7⟩), (0, ⟨x1_0, 4, x1_8⟩)], 2⟩))
    (Q (.tup [.bsl 0 x1_0 0 x1_1, .bsl 1 x1_0 0 x1_2]) ⟨[(1, ⟨x1_0, 1, x1_7⟩), (0, ⟨x1_0, 4, x1_8⟩)], 2⟩)) :
  L_scarfref15_Handles_1 n (m + 1) a1_N a1_Su a1_Sn a1_Sc a1_Lu a1_Ln a1_Lc x1_0 x1_1 x1_2 x1_3 x1_4 x1_5 x1_6 x1_7 x1_8 Q := by
  unfold L_scarfref15_Handles_1
  exact Ends_eq (asks := asks_scarfref15_Handles) (by kernel_rfl) h
/-! ### scarf/scarfref01.Same -/
def asks_scarfref01_Same : Asks := [(6002, .cond), (6003, .told (.sh (.one (.int .i64)))), (6006, .cond), (6007, .told (.sh (.one (.int .i64))))]
@[irreducible] noncomputable def L_scarfref01_Same_0 (n m : Nat) (a0u : Bool) (a0n : Nat) (a0c : List PV) (a1u : Bool) (a1n : Nat) (a1c : List PV) (x0_0 : Int) (Q : PV → Store → Prop) : Prop := Pvm.Ends cfg (cl n) f_scarfref01_Same n (codeAt (bodyOf Tryz.f13) [1, 1, 0, 1, 0]) m
  { regs := [(0, .v (.sl a0u a0n a0c)), (1, .v (.sl a1u a1n a1c)), (5, .v (i64 x0_0))], st := ⟨[], ⟨[], 0⟩⟩, nt := 26 }
  (contC cfg (cl n) f_scarfref01_Same n asks_scarfref01_Same (bodyOf Tryz.f13) [1, 1, 0, 1, 0] [] (retK cfg Tryz.f13 Q))
theorem vc_scarfref01_Same (n : Nat) (a0u : Bool) (a0n : Nat) (a0c : List PV) (a1u : Bool) (a1n : Nat) (a1c : List PV) (Q : PV → Store → Prop)
  (h :
    br (!(decide (((a0n : Nat) : Int) = ((a1n : Nat) : Int))))
    (Q (.s (.bool false)) ⟨[], 0⟩)
    (L_scarfref01_Same_0 n n a0u a0n a0c a1u a1n a1c (0) Q)) :
  Ret cfg (n + 1) f_scarfref01_Same [.sl a0u a0n a0c, .sl a1u a1n a1c] ⟨[], 0⟩ Q :=
  vcRun_eq (fn := Tryz.f13) (asks := asks_scarfref01_Same) (by kernel_rfl) (by kernel_rfl) (by kernel_rfl) (by kernel_rfl) (by kernel_rfl) h
theorem lp_scarfref01_Same_0 (n m : Nat) (a0u : Bool) (a0n : Nat) (a0c : List PV) (a1u : Bool) (a1n : Nat) (a1c : List PV) (x0_0 : Int) (Q : PV → Store → Prop)
  (h :
    br (decide (x0_0 < ((a0n : Nat) : Int)))
    (((0 : Int) ≤ x0_0 ∧ x0_0 < ((a0n : Nat) : Int) ∧ Int.toNat x0_0 * 1 < (a0c : List PV).length) ∧
      ∃ (v1 : Int), (ld prog t_int a0c (Int.toNat x0_0 * 1) (i64 v1)) ∧
      ((0 : Int) ≤ x0_0 ∧ x0_0 < ((a1n : Nat) : Int) ∧ Int.toNat x0_0 * 1 < (a1c : List PV).length) ∧
      ∃ (v2 : Int), (ld prog t_int a1c (Int.toNat x0_0 * 1) (i64 v2)) ∧
      br (!(decide (v1 = v2)))
      (Q (.s (.bool false)) ⟨[], 0⟩)
      (L_scarfref01_Same_0 n m a0u a0n a0c a1u a1n a1c (IntKind.i64.wrap (x0_0 + (1))) Q))
    (Q (.s (.bool true)) ⟨[], 0⟩)) :
  L_scarfref01_Same_0 n (m + 1) a0u a0n a0c a1u a1n a1c x0_0 Q := by
  unfold L_scarfref01_Same_0
  exact Ends_eq (asks := asks_scarfref01_Same) (by kernel_rfl) h
/-! ### scarf/value.With -/
def asks_value_With : Asks := [(1002, .told (.sh (.one (.int .i64)))), (4002, .told (.tup [.one (.sl), .one (.sl)])), (5007, .told (.sh (.one (.bool)))), (7003, .told (.tup [.agg [.int .i64, .sl, .sl], .one (.sl)]))]
theorem vc_value_With (n : Nat) (a0_Kind : Int) (a0_Namesu : Bool) (a0_Namesn : Nat) (a0_Namesc : List PV) (a0_Lu : Bool) (a0_Ln : Nat) (a0_Lc : List PV) (a0_R : Int) (a1_N : Int) (a1_Su : Bool) (a1_Sn : Nat) (a1_Sc : List PV) (a1_Lu : Bool) (a1_Ln : Nat) (a1_Lc : List PV) (a2u : Bool) (a2n : Nat) (a2c : List PV) (Q : PV → Store → Prop)
  (h :
    ∃ (v1 : Int), (cl n f_value_Check [.agg [i64 a0_Kind, .sl a0_Namesu a0_Namesn a0_Namesc, .sl a0_Lu a0_Ln a0_Lc, i64 a0_R], .agg [i64 a1_N, .sl a1_Su a1_Sn a1_Sc, .sl a1_Lu a1_Ln a1_Lc]] ⟨[], 0⟩ = some (i64 v1, ⟨[], 0⟩)) ∧
    br (!(decide (v1 = (0))))
    (Q (.tup [.agg [i64 (0), .sl true 0 [], .sl true 0 []], i64 v1]) ⟨[], 0⟩)
    (∃ (v2 : Bool) (v3 : Nat) (v4 : List PV) (v5 : Bool) (v6 : Nat) (v7 : List PV), (cl n f_value_handles [.agg [i64 a0_Kind, .sl a0_Namesu a0_Namesn a0_Namesc, .sl a0_Lu a0_Ln a0_Lc, i64 a0_R], .agg [i64 a1_N, .sl a1_Su a1_Sn a1_Sc, .sl a1_Lu a1_Ln a1_Lc]] ⟨[], 0⟩ = some (.tup [.sl v2 v3 v4, .sl v5 v6 v7], ⟨[], 0⟩)) ∧
      br (!(decide (((v6 : Nat) : Int) = ((a2n : Nat) : Int))))
      (Q (.tup [.agg [i64 (0), .sl true 0 [], .sl true 0 []], i64 (1)]) ⟨[], 0⟩)
      (∃ (v8 : Bool), (cl n f_slices_ContainsFunc_sl_int_int [.sl a2u a2n a2c, .fn (.func f_value_With_1) [] []] ⟨[], 0⟩ = some (.s (.bool v8), ⟨[], 0⟩)) ∧
        br v8
        (Q (.tup [.agg [i64 (0), .sl true 0 [], .sl true 0 []], i64 (1)]) ⟨[], 0⟩)
        (∃ (v9 : Int) (v10 : Bool) (v11 : Nat) (v12 : List PV) (v13 : Bool) (v14 : Nat) (v15 : List PV) (v16 : Bool) (v17 : Nat) (v18 : List PV), (cl n f_value_with [.agg [i64 a0_Kind, .sl a0_Namesu a0_Namesn a0_Namesc, .sl a0_Lu a0_Ln a0_Lc, i64 a0_R], .agg [i64 a1_N, .sl a1_Su a1_Sn a1_Sc, .sl a1_Lu a1_Ln a1_Lc], .sl a2u a2n a2c] ⟨[], 0⟩ = some (.tup [.agg [i64 v9, .sl v10 v11 v12, .sl v13 v14 v15], .sl v16 v17 v18], ⟨[], 0⟩)) ∧
          Q (.tup [.agg [i64 v9, .sl v10 v11 v12, .sl v13 v14 v15], i64 (0)]) ⟨[], 0⟩)))) :
  Ret cfg (n + 1) f_value_With [.agg [i64 a0_Kind, .sl a0_Namesu a0_Namesn a0_Namesc, .sl a0_Lu a0_Ln a0_Lc, i64 a0_R], .agg [i64 a1_N, .sl a1_Su a1_Sn a1_Sc, .sl a1_Lu a1_Ln a1_Lc], .sl a2u a2n a2c] ⟨[], 0⟩ Q :=
  vcRun_eq (fn := Tryz.f14) (asks := asks_value_With) (by kernel_rfl) (by kernel_rfl) (by kernel_rfl) (by kernel_rfl) (by kernel_rfl) h
/-! ### scarf/value.Same -/
def asks_value_Same : Asks := [(1010, .told (.sh (.one (.bool)))), (1017, .told (.sh (.one (.bool))))]
theorem vc_value_Same (n : Nat) (a0_N : Int) (a0_Su : Bool) (a0_Sn : Nat) (a0_Sc : List PV) (a0_Lu : Bool) (a0_Ln : Nat) (a0_Lc : List PV) (a1_N : Int) (a1_Su : Bool) (a1_Sn : Nat) (a1_Sc : List PV) (a1_Lu : Bool) (a1_Ln : Nat) (a1_Lc : List PV) (Q : PV → Store → Prop)
  (h :
    br (decide (a0_N = a1_N))
    (∃ (v1 : Bool), (cl n f_slices_Equal_sl_int_int [.sl a0_Su a0_Sn a0_Sc, .sl a1_Su a1_Sn a1_Sc] ⟨[], 0⟩ = some (.s (.bool v1), ⟨[], 0⟩)) ∧
      br v1
      (∃ (v2 : Bool), (cl n f_slices_EqualFunc_sl_api_Val_sl_api_Val_api_Val_api_Val [.sl a0_Lu a0_Ln a0_Lc, .sl a1_Lu a1_Ln a1_Lc, .fn (.func f_value_Same) [] []] ⟨[], 0⟩ = some (.s (.bool v2), ⟨[], 0⟩)) ∧
        Q (.s (.bool v2)) ⟨[], 0⟩)
      (Q (.s (.bool false)) ⟨[], 0⟩))
    (Q (.s (.bool false)) ⟨[], 0⟩)) :
  Ret cfg (n + 1) f_value_Same [.agg [i64 a0_N, .sl a0_Su a0_Sn a0_Sc, .sl a0_Lu a0_Ln a0_Lc], .agg [i64 a1_N, .sl a1_Su a1_Sn a1_Sc, .sl a1_Lu a1_Ln a1_Lc]] ⟨[], 0⟩ Q :=
  vcRun_eq (fn := Tryz.f15) (asks := asks_value_Same) (by kernel_rfl) (by kernel_rfl) (by kernel_rfl) (by kernel_rfl) (by kernel_rfl) h
/-! ### scarf/scarfref15.With -/
def asks_scarfref15_With : Asks := [(2001, .cond), (2002, .told (.sh (.one (.int .i64)))), (2005, .cond), (4002, .told (.tup [.one (.sl), .one (.bool)])), (9002, .cond), (9003, .told (.sh (.agg [.int .i64, .sl, .sl, .int .i64]))), (9007, .cond), (9008, .told (.sh (.agg [.int .i64, .sl, .sl]))), (9010, .told (.tup [.agg [.int .i64, .sl, .sl], .one (.sl)])), (10004, .cond)]
@[irreducible] noncomputable def L_scarfref15_With_0 (n m : Nat) (a1_N : Int) (a1_Su : Bool) (a1_Sn : Nat) (a1_Sc : List PV) (a1_Lu : Bool) (a1_Ln : Nat) (a1_Lc : List PV) (a2u : Bool) (a2n : Nat) (a2c : List PV) (x0_0 : Bool) (x0_1 : Nat) (x0_2 : List PV) (Q : PV → Store → Prop) : Prop := Pvm.Ends cfg (cl n) f_scarfref15_With n (codeAt (bodyOf Tryz.f16) [1, 1, 1, 1, 0, 1, 0]) m
  { regs := [(2, .v (.sl a2u a2n a2c)), (4, .loc 4 0), (6, .loc 6 0), (8, .loc 8 0), (9, .v (.sl x0_0 x0_1 x0_2)), (11, .v (i64 (0)))], st := ⟨[(4, [i64 a1_N, .sl a1_Su a1_Sn a1_Sc, .sl a1_Lu a1_Ln a1_Lc]), (6, [i64 (0), .sl true 0 [], .sl true 0 []]), (8, [i64 a1_N, .sl a1_Su a1_Sn a1_Sc, .sl true 0 []])], ⟨[], 0⟩⟩, nt := 69 }
  (contC cfg (cl n) f_scarfref15_With n asks_scarfref15_With (bodyOf Tryz.f16) [1, 1, 1, 1, 0, 1, 0] [] (retK cfg Tryz.f16 Q))
@[irreducible] noncomputable def L_scarfref15_With_1 (n m : Nat) (a1_N : Int) (a1_Su : Bool) (a1_Sn : Nat) (a1_Sc : List PV) (a1_Lu : Bool) (a1_Ln : Nat) (a1_Lc : List PV) (x1_0 : Bool) (x1_1 : Nat) (x1_2 : List PV) (x1_3 : Bool) (x1_4 : Nat) (x1_5 : List PV) (x1_6 : Int) (x1_7 : Nat) (x1_8 : Nat) (x1_9 : List PV) (Q : PV → Store → Prop) : Prop := Pvm.Ends cfg (cl n) f_scarfref15_With n (codeAt (bodyOf Tryz.f16) [1, 1, 1, 1, 0, 1, 0]) m
  { regs := [(2, .v (.sl x1_0 x1_1 x1_2)), (4, .loc 4 0), (6, .loc 6 0), (8, .loc 8 0), (9, .v (.sl x1_3 x1_4 x1_5)), (11, .v (i64 x1_6))], st := ⟨[(4, [i64 a1_N, .sl a1_Su a1_Sn a1_Sc, .sl a1_Lu a1_Ln a1_Lc]), (6, [i64 (0), .sl true 0 [], .sl true 0 []]), (8, [i64 a1_N, .sl a1_Su a1_Sn a1_Sc, .bsl 0 x1_7 0 x1_8])], ⟨[(0, ⟨x1_7, 3, x1_9⟩)], 1⟩⟩, nt := 69 }
  (contC cfg (cl n) f_scarfref15_With n asks_scarfref15_With (bodyOf Tryz.f16) [1, 1, 1, 1, 0, 1, 0] [] (retK cfg Tryz.f16 Q))
theorem vc_scarfref15_With (n : Nat) (a0_Kind : Int) (a0_Namesu : Bool) (a0_Namesn : Nat) (a0_Namesc : List PV) (a0_Lu : Bool) (a0_Ln : Nat) (a0_Lc : List PV) (a0_R : Int) (a1_N : Int) (a1_Su : Bool) (a1_Sn : Nat) (a1_Sc : List PV) (a1_Lu : Bool) (a1_Ln : Nat) (a1_Lc : List PV) (a2u : Bool) (a2n : Nat) (a2c : List PV) (Q : PV → Store → Prop)
  (h :
    br (decide (a0_Kind ≥ (20)))
    (((0 : Int) ≤ (0) ∧ (0) < ((a2n : Nat) : Int) ∧ Int.toNat (0) * 1 < (a2c : List PV).length) ∧
      ∃ (v1 : Int), (ld prog t_int a2c 0 (i64 v1)) ∧
      ((0 : Int) ≤ (1) ∧ a2n = a2n ∧ a2n = a2n ∧ 1 ≤ a2n ∧ a2n ≤ a2n ∧ a2n ≤ a2n ∧ a2n * 1 = (a2c : List PV).length) ∧
      Q (.tup [.agg [i64 v1, .sl true 0 [], .sl true 0 []], .sl (a2u && ((a2n : Nat) == a2n)) (a2n - 1) ((List.drop (1 * 1) a2c).take ((a2n - 1) * 1))]) ⟨[], 0⟩)
    (∃ (v2 : Bool) (v3 : Nat) (v4 : List PV) (v5 : Bool), (cl n f_scarfref15_Inside [.agg [i64 a0_Kind, .sl a0_Namesu a0_Namesn a0_Namesc, .sl a0_Lu a0_Ln a0_Lc, i64 a0_R], .agg [i64 a1_N, .sl a1_Su a1_Sn a1_Sc, .sl a1_Lu a1_Ln a1_Lc]] ⟨[], 0⟩ = some (.tup [.sl v2 v3 v4, .s (.bool v5)], ⟨[], 0⟩)) ∧
      L_scarfref15_With_0 n n a1_N a1_Su a1_Sn a1_Sc a1_Lu a1_Ln a1_Lc a2u a2n a2c v2 v3 v4 Q)) :
  Ret cfg (n + 1) f_scarfref15_With [.agg [i64 a0_Kind, .sl a0_Namesu a0_Namesn a0_Namesc, .sl a0_Lu a0_Ln a0_Lc, i64 a0_R], .agg [i64 a1_N, .sl a1_Su a1_Sn a1_Sc, .sl a1_Lu a1_Ln a1_Lc], .sl a2u a2n a2c] ⟨[], 0⟩ Q :=
  vcRun_eq (fn := Tryz.f16) (asks := asks_scarfref15_With) (by kernel_rfl) (by kernel_rfl) (by kernel_rfl) (by kernel_rfl) (by kernel_rfl) h
theorem lp_scarfref15_With_0 (n m : Nat) (a1_N : Int) (a1_Su : Bool) (a1_Sn : Nat) (a1_Sc : List PV) (a1_Lu : Bool) (a1_Ln : Nat) (a1_Lc : List PV) (a2u : Bool) (a2n : Nat) (a2c : List PV) (x0_0 : Bool) (x0_1 : Nat) (x0_2 : List PV) (Q : PV → Store → Prop)
  (h :
    br (decide ((0) < ((a1_Ln : Nat) : Int)))
    (br (decide ((0) < ((x0_1 : Nat) : Int)))
      (((0 : Int) ≤ (0) ∧ (0) < ((x0_1 : Nat) : Int) ∧ Int.toNat (0) * 4 < (x0_2 : List PV).length) ∧
        ∃ (v1 : Int) (v2 : Bool) (v3 : Nat) (v4 : List PV) (v5 : Bool) (v6 : Nat) (v7 : List PV) (v8 : Int), (ld prog t_api_Type x0_2 0 (.agg [i64 v1, .sl v2 v3 v4, .sl v5 v6 v7, i64 v8])) ∧
        ((0 : Int) ≤ (0) ∧ (0) < ((a1_Ln : Nat) : Int) ∧ Int.toNat (0) * 3 < (a1_Lc : List PV).length) ∧
        ∃ (v9 : Int) (v10 : Bool) (v11 : Nat) (v12 : List PV) (v13 : Bool) (v14 : Nat) (v15 : List PV), (ld prog t_api_Val a1_Lc 0 (.agg [i64 v9, .sl v10 v11 v12, .sl v13 v14 v15])) ∧
        ∃ (v16 : Int) (v17 : Bool) (v18 : Nat) (v19 : List PV) (v20 : Bool) (v21 : Nat) (v22 : List PV) (v23 : Bool) (v24 : Nat) (v25 : List PV), (cl n f_scarfref15_With [.agg [i64 v1, .sl v2 v3 v4, .sl v5 v6 v7, i64 v8], .agg [i64 v9, .sl v10 v11 v12, .sl v13 v14 v15], .sl a2u a2n a2c] ⟨[], 0⟩ = some (.tup [.agg [i64 v16, .sl v17 v18 v19, .sl v20 v21 v22], .sl v23 v24 v25], ⟨[], 0⟩)) ∧
        (([i64 v16, .sl v17 v18 v19, .sl v20 v21 v22] : List PV).length = 1 * 3 ∧ ([i64 v16, .sl v17 v18 v19, .sl v20 v21 v22] : List PV).all oneC = true ∧ true = true ∧ ([] : List PV).length = 0 * 3 ∧ ([] : List PV).all oneC = true ∧ (0 + 1) * 56 ≤ 140737488355328 ∧ 0 + 1 ≤ 140737488355328 ∧ (0 = 0 ∨ 0 < 1)) ∧
        L_scarfref15_With_1 n m a1_N a1_Su a1_Sn a1_Sc a1_Lu a1_Ln a1_Lc v23 v24 v25 x0_0 x0_1 x0_2 (1) 0 1 [i64 v16, .sl v17 v18 v19, .sl v20 v21 v22] Q)
      (Q (.tup [.agg [i64 a1_N, .sl a1_Su a1_Sn a1_Sc, .sl true 0 []], .sl a2u a2n a2c]) ⟨[], 0⟩))
    (Q (.tup [.agg [i64 a1_N, .sl a1_Su a1_Sn a1_Sc, .sl true 0 []], .sl a2u a2n a2c]) ⟨[], 0⟩)) :
  L_scarfref15_With_0 n (m + 1) a1_N a1_Su a1_Sn a1_Sc a1_Lu a1_Ln a1_Lc a2u a2n a2c x0_0 x0_1 x0_2 Q := by
  unfold L_scarfref15_With_0
  exact Ends_eq (asks := asks_scarfref15_With) (by kernel_rfl) h
theorem lp_scarfref15_With_1 (n m : Nat) (a1_N : Int) (a1_Su : Bool) (a1_Sn : Nat) (a1_Sc : List PV) (a1_Lu : Bool) (a1_Ln : Nat) (a1_Lc : List PV) (x1_0 : Bool) (x1_1 : Nat) (x1_2 : List PV) (x1_3 : Bool) (x1_4 : Nat) (x1_5 : List PV) (x1_6 : Int) (x1_7 : Nat) (x1_8 : Nat) (x1_9 : List PV) (Q : PV → Store → Prop)
  (h :
    br (decide (x1_6 < ((a1_Ln : Nat) : Int)))
    (br (decide (x1_6 < ((x1_4 : Nat) : Int)))
      (((0 : Int) ≤ x1_6 ∧ x1_6 < ((x1_4 : Nat) : Int) ∧ Int.toNat x1_6 * 4 < (x1_5 : List PV).length) ∧
        ∃ (v1 : Int) (v2 : Bool) (v3 : Nat) (v4 : List PV) (v5 : Bool) (v6 : Nat) (v7 : List PV) (v8 : Int), (ld prog t_api_Type x1_5 (Int.toNat x1_6 * 4) (.agg [i64 v1, .sl v2 v3 v4, .sl v5 v6 v7, i64 v8])) ∧
        ((0 : Int) ≤ x1_6 ∧ x1_6 < ((a1_Ln : Nat) : Int) ∧ Int.toNat x1_6 * 3 < (a1_Lc : List PV).length) ∧
        ∃ (v9 : Int) (v10 : Bool) (v11 : Nat) (v12 : List PV) (v13 : Bool) (v14 : Nat) (v15 : List PV), (ld prog t_api_Val a1_Lc (Int.toNat x1_6 * 3) (.agg [i64 v9, .sl v10 v11 v12, .sl v13 v14 v15])) ∧
        ∃ (v16 : Int) (v17 : Bool) (v18 : Nat) (v19 : List PV) (v20 : Bool) (v21 : Nat) (v22 : List PV) (v23 : Bool) (v24 : Nat) (v25 : List PV), (cl n f_scarfref15_With [.agg [i64 v1, .sl v2 v3 v4, .sl v5 v6 v7, i64 v8], .agg [i64 v9, .sl v10 v11 v12, .sl v13 v14 v15], .sl x1_0 x1_1 x1_2] ⟨[(0, ⟨x1_7, 3, x1_9⟩)], 1⟩ = some (.tup [.agg [i64 v16, .sl v17 v18 v19, .sl v20 v21 v22], .sl v23 v24 v25], ⟨[(0, ⟨x1_7, 3, x1_9⟩)], 1⟩)) ∧
        (([i64 v16, .sl v17 v18 v19, .sl v20 v21 v22] : List PV).length = 1 * 3 ∧ ([i64 v16, .sl v17 v18 v19, .sl v20 v21 v22] : List PV).all oneC = true ∧ x1_7 = x1_7 ∧ 0 = 0 ∧ 3 = 3 ∧ x1_8 * 3 ≤ (x1_9 : List PV).length ∧ ((List.take (x1_8 * 3) x1_9) : List PV).all oneC = true ∧ (x1_8 + 1) * 56 ≤ 140737488355328 ∧ x1_8 + 1 ≤ 140737488355328) ∧
        L_scarfref15_With_1 n m a1_N a1_Su a1_Sn a1_Sc a1_Lu a1_Ln a1_Lc v23 v24 v25 x1_3 x1_4 x1_5 (IntKind.i64.wrap (x1_6 + (1))) (x1_7 + 1) (x1_8 + 1) ((List.take (x1_8 * 3) x1_9) ++ [i64 v16, .sl v17 v18 v19, .sl v20 v21 v22]) Q)
      (Q (.tup [.agg [i64 a1_N, .sl a1_Su a1_Sn a1_Sc, .bsl 0 x1_7 0 x1_8], .sl x1_0 x1_1 x1_2]) ⟨[(0, ⟨x1_7, 3, x1_9⟩)], 1⟩))
    (Q (.tup [.agg [i64 a1_N, .sl a1_Su a1_Sn a1_Sc, .bsl 0 x1_7 0 x1_8], .sl x1_0 x1_1 x1_2]) ⟨[(0, ⟨x1_7, 3, x1_9⟩)], 1⟩)) :
  L_scarfref15_With_1 n (m + 1) a1_N a1_Su a1_Sn a1_Sc a1_Lu a1_Ln a1_Lc x1_0 x1_1 x1_2 x1_3 x1_4 x1_5 x1_6 x1_7 x1_8 x1_9 Q := by
  unfold L_scarfref15_With_1
  exact Ends_eq (asks := asks_scarfref15_With) (by kernel_rfl) h
/-! ### scarf/scarfref15.Same -/
def asks_scarfref15_Same : Asks := [(1010, .told (.sh (.one (.bool)))), (6003, .cond), (6004, .told (.sh (.agg [.int .i64, .sl, .sl]))), (6008, .cond), (6009, .told (.sh (.agg [.int .i64, .sl, .sl]))), (6010, .told (.sh (.one (.bool))))]
@[irreducible] noncomputable def L_scarfref15_Same_0 (n m : Nat) (a0_N : Int) (a0_Su : Bool) (a0_Sn : Nat) (a0_Sc : List PV) (a0_Lu : Bool) (a0_Ln : Nat) (a0_Lc : List PV) (a1_N : Int) (a1_Su : Bool) (a1_Sn : Nat) (a1_Sc : List PV) (a1_Lu : Bool) (a1_Ln : Nat) (a1_Lc : List PV) (x0_0 : Int) (Q : PV → Store → Prop) : Prop := Pvm.Ends cfg (cl n) f_scarfref15_Same n (codeAt (bodyOf Tryz.f17) [1, 1, 0, 1, 0]) m
  { regs := [(2, .loc 2 0), (3, .loc 3 0), (5, .v (i64 x0_0))], st := ⟨[(2, [i64 a0_N, .sl a0_Su a0_Sn a0_Sc, .sl a0_Lu a0_Ln a0_Lc]), (3, [i64 a1_N, .sl a1_Su a1_Sn a1_Sc, .sl a1_Lu a1_Ln a1_Lc])], ⟨[], 0⟩⟩, nt := 47 }
  (contC cfg (cl n) f_scarfref15_Same n asks_scarfref15_Same (bodyOf Tryz.f17) [1, 1, 0, 1, 0] [] (retK cfg Tryz.f17 Q))
theorem vc_scarfref15_Same (n : Nat) (a0_N : Int) (a0_Su : Bool) (a0_Sn : Nat) (a0_Sc : List PV) (a0_Lu : Bool) (a0_Ln : Nat) (a0_Lc : List PV) (a1_N : Int) (a1_Su : Bool) (a1_Sn : Nat) (a1_Sc : List PV) (a1_Lu : Bool) (a1_Ln : Nat) (a1_Lc : List PV) (Q : PV → Store → Prop)
  (h :
    br (!(decide (a0_N = a1_N)))
    (Q (.s (.bool false)) ⟨[], 0⟩)
    (∃ (v1 : Bool), (cl n f_scarfref01_Same [.sl a0_Su a0_Sn a0_Sc, .sl a1_Su a1_Sn a1_Sc] ⟨[], 0⟩ = some (.s (.bool v1), ⟨[], 0⟩)) ∧
      br (!v1)
      (Q (.s (.bool false)) ⟨[], 0⟩)
      (br (!(decide (((a0_Ln : Nat) : Int) = ((a1_Ln : Nat) : Int))))
        (Q (.s (.bool false)) ⟨[], 0⟩)
        (L_scarfref15_Same_0 n n a0_N a0_Su a0_Sn a0_Sc a0_Lu a0_Ln a0_Lc a1_N a1_Su a1_Sn a1_Sc a1_Lu a1_Ln a1_Lc (0) Q)))) :
  Ret cfg (n + 1) f_scarfref15_Same [.agg [i64 a0_N, .sl a0_Su a0_Sn a0_Sc, .sl a0_Lu a0_Ln a0_Lc], .agg [i64 a1_N, .sl a1_Su a1_Sn a1_Sc, .sl a1_Lu a1_Ln a1_Lc]] ⟨[], 0⟩ Q :=
  vcRun_eq (fn := Tryz.f17) (asks := asks_scarfref15_Same) (by kernel_rfl) (by kernel_rfl) (by kernel_rfl) (by kernel_rfl) (by kernel_rfl) h
theorem lp_scarfref15_Same_0 (n m : Nat) (a0_N : Int) (a0_Su : Bool) (a0_Sn : Nat) (a0_Sc : List PV) (a0_Lu : Bool) (a0_Ln : Nat) (a0_Lc : List PV) (a1_N : Int) (a1_Su : Bool) (a1_Sn : Nat) (a1_Sc : List PV) (a1_Lu : Bool) (a1_Ln : Nat) (a1_Lc : List PV) (x0_0 : Int) (Q : PV → Store → Prop)
  (h :
    br (decide (x0_0 < ((a0_Ln : Nat) : Int)))
    (((0 : Int) ≤ x0_0 ∧ x0_0 < ((a0_Ln : Nat) : Int) ∧ Int.toNat x0_0 * 3 < (a0_Lc : List PV).length) ∧
      ∃ (v1 : Int) (v2 : Bool) (v3 : Nat) (v4 : List PV) (v5 : Bool) (v6 : Nat) (v7 : List PV), (ld prog t_api_Val a0_Lc (Int.toNat x0_0 * 3) (.agg [i64 v1, .sl v2 v3 v4, .sl v5 v6 v7])) ∧
      ((0 : Int) ≤ x0_0 ∧ x0_0 < ((a1_Ln : Nat) : Int) ∧ Int.toNat x0_0 * 3 < (a1_Lc : List PV).length) ∧
      ∃ (v8 : Int) (v9 : Bool) (v10 : Nat) (v11 : List PV) (v12 : Bool) (v13 : Nat) (v14 : List PV), (ld prog t_api_Val a1_Lc (Int.toNat x0_0 * 3) (.agg [i64 v8, .sl v9 v10 v11, .sl v12 v13 v14])) ∧
      ∃ (v15 : Bool), (cl n f_scarfref15_Same [.agg [i64 v1, .sl v2 v3 v4, .sl v5 v6 v7], .agg [i64 v8, .sl v9 v10 v11, .sl v12 v13 v14]] ⟨[], 0⟩ = some (.s (.bool v15), ⟨[], 0⟩)) ∧
      br (!v15)
      (Q (.s (.bool false)) ⟨[], 0⟩)
      (L_scarfref15_Same_0 n m a0_N a0_Su a0_Sn a0_Sc a0_Lu a0_Ln a0_Lc a1_N a1_Su a1_Sn a1_Sc a1_Lu a1_Ln a1_Lc (IntKind.i64.wrap (x0_0 + (1))) Q))
    (Q (.s (.bool true)) ⟨[], 0⟩)) :
  L_scarfref15_Same_0 n (m + 1) a0_N a0_Su a0_Sn a0_Sc a0_Lu a0_Ln a0_Lc a1_N a1_Su a1_Sn a1_Sc a1_Lu a1_Ln a1_Lc x0_0 Q := by
  unfold L_scarfref15_Same_0
  exact Ends_eq (asks := asks_scarfref15_Same) (by kernel_rfl) h
/-! ### scarf/value.Check -/
def asks_value_Check : Asks := [(1001, .told (.sh (.one (.int .i64)))), (3002, .told (.sh (.one (.int .i64))))]
theorem vc_value_Check (n : Nat) (a0_Kind : Int) (a0_Namesu : Bool) (a0_Namesn : Nat) (a0_Namesc : List PV) (a0_Lu : Bool) (a0_Ln : Nat) (a0_Lc : List PV) (a0_R : Int) (a1_N : Int) (a1_Su : Bool) (a1_Sn : Nat) (a1_Sc : List PV) (a1_Lu : Bool) (a1_Ln : Nat) (a1_Lc : List PV) (Q : PV → Store → Prop)
  (h :
    ∃ (v1 : Int), (cl n f_ctype_Check [.agg [i64 a0_Kind, .sl a0_Namesu a0_Namesn a0_Namesc, .sl a0_Lu a0_Ln a0_Lc, i64 a0_R]] ⟨[], 0⟩ = some (i64 v1, ⟨[], 0⟩)) ∧
    br (!(decide (v1 = (0))))
    (Q (i64 (1)) ⟨[], 0⟩)
    (∃ (v2 : Int), (cl n f_value_parts [.agg [i64 a0_Kind, .sl a0_Namesu a0_Namesn a0_Namesc, .sl a0_Lu a0_Ln a0_Lc, i64 a0_R], .agg [i64 a1_N, .sl a1_Su a1_Sn a1_Sc, .sl a1_Lu a1_Ln a1_Lc]] ⟨[], 0⟩ = some (i64 v2, ⟨[], 0⟩)) ∧
      br (decide (v2 = (0)))
      (Q (i64 (6)) ⟨[], 0⟩)
      (br (decide (v2 > (4000)))
        (Q (i64 (6)) ⟨[], 0⟩)
        (Q (i64 (0)) ⟨[], 0⟩)))) :
  Ret cfg (n + 1) f_value_Check [.agg [i64 a0_Kind, .sl a0_Namesu a0_Namesn a0_Namesc, .sl a0_Lu a0_Ln a0_Lc, i64 a0_R], .agg [i64 a1_N, .sl a1_Su a1_Sn a1_Sc, .sl a1_Lu a1_Ln a1_Lc]] ⟨[], 0⟩ Q :=
  vcRun_eq (fn := Tryz.f18) (asks := asks_value_Check) (by kernel_rfl) (by kernel_rfl) (by kernel_rfl) (by kernel_rfl) (by kernel_rfl) h
/-! ### scarf/ctype.CheckSig -/
def asks_ctype_CheckSig : Asks := [(1021, .told (.sh (.one (.bool)))), (1028, .told (.sh (.one (.bool)))), (1033, .told (.sh (.one (.int .i64)))), (5000, .cond), (5001, .told (.sh (.agg [.int .i64, .sl, .sl, .int .i64]))), (6001, .told (.sh (.one (.int .i64))))]
@[irreducible] noncomputable def L_ctype_CheckSig_0 (n m : Nat) (a0_Tu : Bool) (a0_Tn : Nat) (a0_Tc : List PV) (x0_0 : Int) (Q : PV → Store → Prop) : Prop := Pvm.Ends cfg (cl n) f_ctype_CheckSig n (codeAt (bodyOf Tryz.f21) [1, 1, 0, 1, 0]) m
  { regs := [(44, .v (.sl a0_Tu a0_Tn a0_Tc)), (45, .v (i64 ((a0_Tn : Nat) : Int))), (46, .v (i64 x0_0))], st := ⟨[], ⟨[], 0⟩⟩, nt := 56 }
  (contC cfg (cl n) f_ctype_CheckSig n asks_ctype_CheckSig (bodyOf Tryz.f21) [1, 1, 0, 1, 0] [] (retK cfg Tryz.f21 Q))
theorem vc_ctype_CheckSig (n : Nat) (a0_Name : ByteArray) (a0_Pu : Bool) (a0_Pn : Nat) (a0_Pc : List PV) (a0_Tu : Bool) (a0_Tn : Nat) (a0_Tc : List PV) (a0_R_Kind : Int) (a0_R_Namesu : Bool) (a0_R_Namesn : Nat) (a0_R_Namesc : List PV) (a0_R_Lu : Bool) (a0_R_Ln : Nat) (a0_R_Lc : List PV) (a0_R_R : Int) (Q : PV → Store → Prop)
  (h :
    br (!(decide (((a0_Pn : Nat) : Int) = ((a0_Tn : Nat) : Int))))
    (Q (i64 (1)) ⟨[], 0⟩)
    (br (decide (((a0_Pn : Nat) : Int) > (64)))
      (Q (i64 (1)) ⟨[], 0⟩)
      (br (decide (((a0_Pn : Nat) : Int) > (0)))
        (∃ (v1 : Bool), (cl n f_ctype_distinct [.sl a0_Pu a0_Pn a0_Pc] ⟨[], 0⟩ = some (.s (.bool v1), ⟨[], 0⟩)) ∧
          br (!v1)
          (Q (i64 (1)) ⟨[], 0⟩)
          (∃ (v2 : Bool), (cl n f_ctype_none [.agg [i64 a0_R_Kind, .sl a0_R_Namesu a0_R_Namesn a0_R_Namesc, .sl a0_R_Lu a0_R_Ln a0_R_Lc, i64 a0_R_R]] ⟨[], 0⟩ = some (.s (.bool v2), ⟨[], 0⟩)) ∧
            br (!v2)
            (∃ (v3 : Int), (cl n f_ctype_Check [.agg [i64 a0_R_Kind, .sl a0_R_Namesu a0_R_Namesn a0_R_Namesc, .sl a0_R_Lu a0_R_Ln a0_R_Lc, i64 a0_R_R]] ⟨[], 0⟩ = some (i64 v3, ⟨[], 0⟩)) ∧
              br (!(decide (v3 = (0))))
              (Q (i64 (1)) ⟨[], 0⟩)
              (L_ctype_CheckSig_0 n n a0_Tu a0_Tn a0_Tc (0) Q))
            (L_ctype_CheckSig_0 n n a0_Tu a0_Tn a0_Tc (0) Q)))
        (∃ (v4 : Bool), (cl n f_ctype_none [.agg [i64 a0_R_Kind, .sl a0_R_Namesu a0_R_Namesn a0_R_Namesc, .sl a0_R_Lu a0_R_Ln a0_R_Lc, i64 a0_R_R]] ⟨[], 0⟩ = some (.s (.bool v4), ⟨[], 0⟩)) ∧
          br (!v4)
          (∃ (v5 : Int), (cl n f_ctype_Check [.agg [i64 a0_R_Kind, .sl a0_R_Namesu a0_R_Namesn a0_R_Namesc, .sl a0_R_Lu a0_R_Ln a0_R_Lc, i64 a0_R_R]] ⟨[], 0⟩ = some (i64 v5, ⟨[], 0⟩)) ∧
            br (!(decide (v5 = (0))))
            (Q (i64 (1)) ⟨[], 0⟩)
            (L_ctype_CheckSig_0 n n a0_Tu a0_Tn a0_Tc (0) Q))
          (L_ctype_CheckSig_0 n n a0_Tu a0_Tn a0_Tc (0) Q))))) :
  Ret cfg (n + 1) f_ctype_CheckSig [.agg [.s (.string a0_Name), .sl a0_Pu a0_Pn a0_Pc, .sl a0_Tu a0_Tn a0_Tc, i64 a0_R_Kind, .sl a0_R_Namesu a0_R_Namesn a0_R_Namesc, .sl a0_R_Lu a0_R_Ln a0_R_Lc, i64 a0_R_R]] ⟨[], 0⟩ Q :=
  vcRun_eq (fn := Tryz.f21) (asks := asks_ctype_CheckSig) (by kernel_rfl) (by kernel_rfl) (by kernel_rfl) (by kernel_rfl) (by kernel_rfl) h
theorem lp_ctype_CheckSig_0 (n m : Nat) (a0_Tu : Bool) (a0_Tn : Nat) (a0_Tc : List PV) (x0_0 : Int) (Q : PV → Store → Prop)
  (h :
    br (decide (x0_0 < ((a0_Tn : Nat) : Int)))
    (((0 : Int) ≤ x0_0 ∧ x0_0 < ((a0_Tn : Nat) : Int) ∧ Int.toNat x0_0 * 4 < (a0_Tc : List PV).length) ∧
      ∃ (v1 : Int) (v2 : Bool) (v3 : Nat) (v4 : List PV) (v5 : Bool) (v6 : Nat) (v7 : List PV) (v8 : Int), (ld prog t_api_Type a0_Tc (Int.toNat x0_0 * 4) (.agg [i64 v1, .sl v2 v3 v4, .sl v5 v6 v7, i64 v8])) ∧
      ∃ (v9 : Int), (cl n f_ctype_Check [.agg [i64 v1, .sl v2 v3 v4, .sl v5 v6 v7, i64 v8]] ⟨[], 0⟩ = some (i64 v9, ⟨[], 0⟩)) ∧
      br (!(decide (v9 = (0))))
      (Q (i64 v9) ⟨[], 0⟩)
      (L_ctype_CheckSig_0 n m a0_Tu a0_Tn a0_Tc (IntKind.i64.wrap (x0_0 + (1))) Q))
    (Q (i64 (0)) ⟨[], 0⟩)) :
  L_ctype_CheckSig_0 n (m + 1) a0_Tu a0_Tn a0_Tc x0_0 Q := by
  unfold L_ctype_CheckSig_0
  exact Ends_eq (asks := asks_ctype_CheckSig) (by kernel_rfl) h
/-! ### scarf/value.all -/
def asks_value_all : Asks := [(4001, .cond), (4002, .told (.sh (.agg [.int .i64, .sl, .sl]))), (5002, .cond), (5003, .told (.sh (.agg [.int .i64, .sl, .sl, .int .i64]))), (5005, .told (.sh (.one (.int .i64))))]
@[irreducible] noncomputable def L_value_all_0 (n m : Nat) (a0u : Bool) (a0n : Nat) (a0c : List PV) (a1u : Bool) (a1n : Nat) (a1c : List PV) (x0_0 : Int) (x0_1 : Int) (Q : PV → Store → Prop) : Prop := Pvm.Ends cfg (cl n) f_value_all n (codeAt (bodyOf Tryz.f22) [1, 1, 0, 1, 0]) m
  { regs := [(0, .v (.sl a0u a0n a0c)), (5, .v (i64 x0_0)), (9, .v (.sl a1u a1n a1c)), (10, .v (i64 ((a1n : Nat) : Int))), (11, .v (i64 x0_1))], st := ⟨[], ⟨[], 0⟩⟩, nt := 33 }
  (contC cfg (cl n) f_value_all n asks_value_all (bodyOf Tryz.f22) [1, 1, 0, 1, 0] [] (retK cfg Tryz.f22 Q))
theorem vc_value_all (n : Nat) (a0u : Bool) (a0n : Nat) (a0c : List PV) (a1u : Bool) (a1n : Nat) (a1c : List PV) (Q : PV → Store → Prop)
  (h :
    L_value_all_0 n n a0u a0n a0c a1u a1n a1c (1) (0) Q) :
  Ret cfg (n + 1) f_value_all [.sl a0u a0n a0c, .sl a1u a1n a1c] ⟨[], 0⟩ Q :=
  vcRun_eq (fn := Tryz.f22) (asks := asks_value_all) (by kernel_rfl) (by kernel_rfl) (by kernel_rfl) (by kernel_rfl) (by kernel_rfl) h
theorem lp_value_all_0 (n m : Nat) (a0u : Bool) (a0n : Nat) (a0c : List PV) (a1u : Bool) (a1n : Nat) (a1c : List PV) (x0_0 : Int) (x0_1 : Int) (Q : PV → Store → Prop)
  (h :
    br (decide (x0_1 < ((a1n : Nat) : Int)))
    (((0 : Int) ≤ x0_1 ∧ x0_1 < ((a1n : Nat) : Int) ∧ Int.toNat x0_1 * 3 < (a1c : List PV).length) ∧
      ∃ (v1 : Int) (v2 : Bool) (v3 : Nat) (v4 : List PV) (v5 : Bool) (v6 : Nat) (v7 : List PV), (ld prog t_api_Val a1c (Int.toNat x0_1 * 3) (.agg [i64 v1, .sl v2 v3 v4, .sl v5 v6 v7])) ∧
      ((0 : Int) ≤ x0_1 ∧ x0_1 < ((a0n : Nat) : Int) ∧ Int.toNat x0_1 * 4 < (a0c : List PV).length) ∧
      ∃ (v8 : Int) (v9 : Bool) (v10 : Nat) (v11 : List PV) (v12 : Bool) (v13 : Nat) (v14 : List PV) (v15 : Int), (ld prog t_api_Type a0c (Int.toNat x0_1 * 4) (.agg [i64 v8, .sl v9 v10 v11, .sl v12 v13 v14, i64 v15])) ∧
      ∃ (v16 : Int), (cl n f_value_parts [.agg [i64 v8, .sl v9 v10 v11, .sl v12 v13 v14, i64 v15], .agg [i64 v1, .sl v2 v3 v4, .sl v5 v6 v7]] ⟨[], 0⟩ = some (i64 v16, ⟨[], 0⟩)) ∧
      br (decide (v16 = (0)))
      (Q (i64 (0)) ⟨[], 0⟩)
      (br (decide ((IntKind.i64.wrap (x0_0 + v16)) > (4000)))
        (Q (i64 (0)) ⟨[], 0⟩)
        (L_value_all_0 n m a0u a0n a0c a1u a1n a1c (IntKind.i64.wrap (x0_0 + v16)) (IntKind.i64.wrap (x0_1 + (1))) Q)))
    (Q (i64 x0_0) ⟨[], 0⟩)) :
  L_value_all_0 n (m + 1) a0u a0n a0c a1u a1n a1c x0_0 x0_1 Q := by
  unfold L_value_all_0
  exact Ends_eq (asks := asks_value_all) (by kernel_rfl) h
/-! ### scarf/scarfref13.MaySig -/
def asks_scarfref13_MaySig : Asks := [(1015, .told (.sh (.one (.bool)))), (1022, .told (.sh (.one (.bool)))), (1027, .told (.sh (.one (.bool)))), (6003, .cond), (6004, .told (.sh (.agg [.int .i64, .sl, .sl, .int .i64]))), (6005, .told (.sh (.one (.bool))))]
@[irreducible] noncomputable def L_scarfref13_MaySig_0 (n m : Nat) (a0_Name : ByteArray) (a0_Pu : Bool) (a0_Pn : Nat) (a0_Pc : List PV) (a0_Tu : Bool) (a0_Tn : Nat) (a0_Tc : List PV) (a0_R_Kind : Int) (a0_R_Namesu : Bool) (a0_R_Namesn : Nat) (a0_R_Namesc : List PV) (a0_R_Lu : Bool) (a0_R_Ln : Nat) (a0_R_Lc : List PV) (a0_R_R : Int) (x0_0 : Int) (Q : PV → Store → Prop) : Prop := Pvm.Ends cfg (cl n) f_scarfref13_MaySig n (codeAt (bodyOf Tryz.f23) [1, 1, 0, 1, 0]) m
  { regs := [(1, .loc 1 0), (3, .v (i64 x0_0))], st := ⟨[(1, [.s (.string a0_Name), .sl a0_Pu a0_Pn a0_Pc, .sl a0_Tu a0_Tn a0_Tc, i64 a0_R_Kind, .sl a0_R_Namesu a0_R_Namesn a0_R_Namesc, .sl a0_R_Lu a0_R_Ln a0_R_Lc, i64 a0_R_R])], ⟨[], 0⟩⟩, nt := 49 }
  (contC cfg (cl n) f_scarfref13_MaySig n asks_scarfref13_MaySig (bodyOf Tryz.f23) [1, 1, 0, 1, 0] [] (retK cfg Tryz.f23 Q))
theorem vc_scarfref13_MaySig (n : Nat) (a0_Name : ByteArray) (a0_Pu : Bool) (a0_Pn : Nat) (a0_Pc : List PV) (a0_Tu : Bool) (a0_Tn : Nat) (a0_Tc : List PV) (a0_R_Kind : Int) (a0_R_Namesu : Bool) (a0_R_Namesn : Nat) (a0_R_Namesc : List PV) (a0_R_Lu : Bool) (a0_R_Ln : Nat) (a0_R_Lc : List PV) (a0_R_R : Int) (Q : PV → Store → Prop)
  (h :
    br (!(decide (((a0_Pn : Nat) : Int) = ((a0_Tn : Nat) : Int))))
    (Q (.s (.bool false)) ⟨[], 0⟩)
    (br (decide (((a0_Pn : Nat) : Int) > (0)))
      (∃ (v1 : Bool), (cl n f_scarfref13_names [.sl a0_Pu a0_Pn a0_Pc, i64 (64)] ⟨[], 0⟩ = some (.s (.bool v1), ⟨[], 0⟩)) ∧
        br (!v1)
        (Q (.s (.bool false)) ⟨[], 0⟩)
        (∃ (v2 : Bool), (cl n f_scarfref11_None [.agg [i64 a0_R_Kind, .sl a0_R_Namesu a0_R_Namesn a0_R_Namesc, .sl a0_R_Lu a0_R_Ln a0_R_Lc, i64 a0_R_R]] ⟨[], 0⟩ = some (.s (.bool v2), ⟨[], 0⟩)) ∧
          br (!v2)
          (∃ (v3 : Bool), (cl n f_scarfref13_May [.agg [i64 a0_R_Kind, .sl a0_R_Namesu a0_R_Namesn a0_R_Namesc, .sl a0_R_Lu a0_R_Ln a0_R_Lc, i64 a0_R_R]] ⟨[], 0⟩ = some (.s (.bool v3), ⟨[], 0⟩)) ∧
            br (!v3)
            (Q (.s (.bool false)) ⟨[], 0⟩)
            (L_scarfref13_MaySig_0 n n a0_Name a0_Pu a0_Pn a0_Pc a0_Tu a0_Tn a0_Tc a0_R_Kind a0_R_Namesu a0_R_Namesn a0_R_Namesc a0_R_Lu a0_R_Ln a0_R_Lc a0_R_R (0) Q))
          (L_scarfref13_MaySig_0 n n a0_Name a0_Pu a0_Pn a0_Pc a0_Tu a0_Tn a0_Tc a0_R_Kind a0_R_Namesu a0_R_Namesn a0_R_Namesc a0_R_Lu a0_R_Ln a0_R_Lc a0_R_R (0) Q)))
      (∃ (v4 : Bool), (cl n f_scarfref11_None [.agg [i64 a0_R_Kind, .sl a0_R_Namesu a0_R_Namesn a0_R_Namesc, .sl a0_R_Lu a0_R_Ln a0_R_Lc, i64 a0_R_R]] ⟨[], 0⟩ = some (.s (.bool v4), ⟨[], 0⟩)) ∧
        br (!v4)
        (∃ (v5 : Bool), (cl n f_scarfref13_May [.agg [i64 a0_R_Kind, .sl a0_R_Namesu a0_R_Namesn a0_R_Namesc, .sl a0_R_Lu a0_R_Ln a0_R_Lc, i64 a0_R_R]] ⟨[], 0⟩ = some (.s (.bool v5), ⟨[], 0⟩)) ∧
          br (!v5)
          (Q (.s (.bool false)) ⟨[], 0⟩)
          (L_scarfref13_MaySig_0 n n a0_Name a0_Pu a0_Pn a0_Pc a0_Tu a0_Tn a0_Tc a0_R_Kind a0_R_Namesu a0_R_Namesn a0_R_Namesc a0_R_Lu a0_R_Ln a0_R_Lc a0_R_R (0) Q))
        (L_scarfref13_MaySig_0 n n a0_Name a0_Pu a0_Pn a0_Pc a0_Tu a0_Tn a0_Tc a0_R_Kind a0_R_Namesu a0_R_Namesn a0_R_Namesc a0_R_Lu a0_R_Ln a0_R_Lc a0_R_R (0) Q)))) :
  Ret cfg (n + 1) f_scarfref13_MaySig [.agg [.s (.string a0_Name), .sl a0_Pu a0_Pn a0_Pc, .sl a0_Tu a0_Tn a0_Tc, i64 a0_R_Kind, .sl a0_R_Namesu a0_R_Namesn a0_R_Namesc, .sl a0_R_Lu a0_R_Ln a0_R_Lc, i64 a0_R_R]] ⟨[], 0⟩ Q :=
  vcRun_eq (fn := Tryz.f23) (asks := asks_scarfref13_MaySig) (by kernel_rfl) (by kernel_rfl) (by kernel_rfl) (by kernel_rfl) (by kernel_rfl) h
theorem lp_scarfref13_MaySig_0 (n m : Nat) (a0_Name : ByteArray) (a0_Pu : Bool) (a0_Pn : Nat) (a0_Pc : List PV) (a0_Tu : Bool) (a0_Tn : Nat) (a0_Tc : List PV) (a0_R_Kind : Int) (a0_R_Namesu : Bool) (a0_R_Namesn : Nat) (a0_R_Namesc : List PV) (a0_R_Lu : Bool) (a0_R_Ln : Nat) (a0_R_Lc : List PV) (a0_R_R : Int) (x0_0 : Int) (Q : PV → Store → Prop)
  (h :
    br (decide (x0_0 < ((a0_Tn : Nat) : Int)))
    (((0 : Int) ≤ x0_0 ∧ x0_0 < ((a0_Tn : Nat) : Int) ∧ Int.toNat x0_0 * 4 < (a0_Tc : List PV).length) ∧
      ∃ (v1 : Int) (v2 : Bool) (v3 : Nat) (v4 : List PV) (v5 : Bool) (v6 : Nat) (v7 : List PV) (v8 : Int), (ld prog t_api_Type a0_Tc (Int.toNat x0_0 * 4) (.agg [i64 v1, .sl v2 v3 v4, .sl v5 v6 v7, i64 v8])) ∧
      ∃ (v9 : Bool), (cl n f_scarfref13_May [.agg [i64 v1, .sl v2 v3 v4, .sl v5 v6 v7, i64 v8]] ⟨[], 0⟩ = some (.s (.bool v9), ⟨[], 0⟩)) ∧
      br (!v9)
      (Q (.s (.bool false)) ⟨[], 0⟩)
      (L_scarfref13_MaySig_0 n m a0_Name a0_Pu a0_Pn a0_Pc a0_Tu a0_Tn a0_Tc a0_R_Kind a0_R_Namesu a0_R_Namesn a0_R_Namesc a0_R_Lu a0_R_Ln a0_R_Lc a0_R_R (IntKind.i64.wrap (x0_0 + (1))) Q))
    (Q (.s (.bool true)) ⟨[], 0⟩)) :
  L_scarfref13_MaySig_0 n (m + 1) a0_Name a0_Pu a0_Pn a0_Pc a0_Tu a0_Tn a0_Tc a0_R_Kind a0_R_Namesu a0_R_Namesn a0_R_Namesc a0_R_Lu a0_R_Ln a0_R_Lc a0_R_R x0_0 Q := by
  unfold L_scarfref13_MaySig_0
  exact Ends_eq (asks := asks_scarfref13_MaySig) (by kernel_rfl) h
/-! ### scarf/scarfref15.sum -/
def asks_scarfref15_sum : Asks := [(5002, .cond), (5003, .told (.sh (.agg [.int .i64, .sl, .sl, .int .i64]))), (5006, .cond), (5007, .told (.sh (.agg [.int .i64, .sl, .sl]))), (5008, .told (.sh (.one (.int .i64))))]
@[irreducible] noncomputable def L_scarfref15_sum_0 (n m : Nat) (a0u : Bool) (a0n : Nat) (a0c : List PV) (a1u : Bool) (a1n : Nat) (a1c : List PV) (x0_0 : Int) (x0_1 : Int) (Q : PV → Store → Prop) : Prop := Pvm.Ends cfg (cl n) f_scarfref15_sum n (codeAt (bodyOf Tryz.f24) [1, 1, 0, 1, 0]) m
  { regs := [(0, .v (.sl a0u a0n a0c)), (1, .v (.sl a1u a1n a1c)), (5, .v (i64 x0_0)), (6, .v (i64 x0_1))], st := ⟨[], ⟨[], 0⟩⟩, nt := 33 }
  (contC cfg (cl n) f_scarfref15_sum n asks_scarfref15_sum (bodyOf Tryz.f24) [1, 1, 0, 1, 0] [] (retK cfg Tryz.f24 Q))
theorem vc_scarfref15_sum (n : Nat) (a0u : Bool) (a0n : Nat) (a0c : List PV) (a1u : Bool) (a1n : Nat) (a1c : List PV) (Q : PV → Store → Prop)
  (h :
    L_scarfref15_sum_0 n n a0u a0n a0c a1u a1n a1c (1) (0) Q) :
  Ret cfg (n + 1) f_scarfref15_sum [.sl a0u a0n a0c, .sl a1u a1n a1c] ⟨[], 0⟩ Q :=
  vcRun_eq (fn := Tryz.f24) (asks := asks_scarfref15_sum) (by kernel_rfl) (by kernel_rfl) (by kernel_rfl) (by kernel_rfl) (by kernel_rfl) h
theorem lp_scarfref15_sum_0 (n m : Nat) (a0u : Bool) (a0n : Nat) (a0c : List PV) (a1u : Bool) (a1n : Nat) (a1c : List PV) (x0_0 : Int) (x0_1 : Int) (Q : PV → Store → Prop)
  (h :
    br (decide (x0_1 < ((a1n : Nat) : Int)))
    (((0 : Int) ≤ x0_1 ∧ x0_1 < ((a0n : Nat) : Int) ∧ Int.toNat x0_1 * 4 < (a0c : List PV).length) ∧
      ∃ (v1 : Int) (v2 : Bool) (v3 : Nat) (v4 : List PV) (v5 : Bool) (v6 : Nat) (v7 : List PV) (v8 : Int), (ld prog t_api_Type a0c (Int.toNat x0_1 * 4) (.agg [i64 v1, .sl v2 v3 v4, .sl v5 v6 v7, i64 v8])) ∧
      ((0 : Int) ≤ x0_1 ∧ x0_1 < ((a1n : Nat) : Int) ∧ Int.toNat x0_1 * 3 < (a1c : List PV).length) ∧
      ∃ (v9 : Int) (v10 : Bool) (v11 : Nat) (v12 : List PV) (v13 : Bool) (v14 : Nat) (v15 : List PV), (ld prog t_api_Val a1c (Int.toNat x0_1 * 3) (.agg [i64 v9, .sl v10 v11 v12, .sl v13 v14 v15])) ∧
      ∃ (v16 : Int), (cl n f_scarfref15_Parts [.agg [i64 v1, .sl v2 v3 v4, .sl v5 v6 v7, i64 v8], .agg [i64 v9, .sl v10 v11 v12, .sl v13 v14 v15]] ⟨[], 0⟩ = some (i64 v16, ⟨[], 0⟩)) ∧
      br (decide (v16 = (0)))
      (Q (i64 (0)) ⟨[], 0⟩)
      (br (decide ((IntKind.i64.wrap (x0_0 + v16)) > (4000)))
        (Q (i64 (0)) ⟨[], 0⟩)
        (L_scarfref15_sum_0 n m a0u a0n a0c a1u a1n a1c (IntKind.i64.wrap (x0_0 + v16)) (IntKind.i64.wrap (x0_1 + (1))) Q)))
    (Q (i64 x0_0) ⟨[], 0⟩)) :
  L_scarfref15_sum_0 n (m + 1) a0u a0n a0c a1u a1n a1c x0_0 x0_1 Q := by
  unfold L_scarfref15_sum_0
  exact Ends_eq (asks := asks_scarfref15_sum) (by kernel_rfl) h
/-! ### scarf/value.handles -/
def asks_value_handles : Asks := [(7001, .cond), (7002, .told (.sh (.agg [.int .i64, .sl, .sl]))), (8003, .told (.sh (.agg [.int .i64, .sl, .sl, .int .i64]))), (8005, .told (.tup [.one (.sl), .one (.sl)])), (9002, .cond), (9005, .cond)]
@[irreducible] noncomputable def L_value_handles_0 (n m : Nat) (a0_Kind : Int) (a0_Namesu : Bool) (a0_Namesn : Nat) (a0_Namesc : List PV) (a0_Lu : Bool) (a0_Ln : Nat) (a0_Lc : List PV) (a0_R : Int) (a1_N : Int) (a1_Su : Bool) (a1_Sn : Nat) (a1_Sc : List PV) (a1_Lu : Bool) (a1_Ln : Nat) (a1_Lc : List PV) (Q : PV → Store → Prop) : Prop := Pvm.Ends cfg (cl n) f_value_handles n (codeAt (bodyOf Tryz.f25) [1, 1, 1, 1, 0, 1, 0]) m
  { regs := [(2, .loc 2 0), (3, .loc 3 0), (6, .v (.sl true 0 [])), (7, .v (.sl true 0 [])), (26, .v (.sl a1_Lu a1_Ln a1_Lc)), (27, .v (i64 ((a1_Ln : Nat) : Int))), (28, .v (i64 (0)))], st := ⟨[(2, [i64 a0_Kind, .sl a0_Namesu a0_Namesn a0_Namesc, .sl a0_Lu a0_Ln a0_Lc, i64 a0_R]), (3, [i64 a1_N, .sl a1_Su a1_Sn a1_Sc, .sl a1_Lu a1_Ln a1_Lc])], ⟨[], 0⟩⟩, nt := 51 }
  (contC cfg (cl n) f_value_handles n asks_value_handles (bodyOf Tryz.f25) [1, 1, 1, 1, 0, 1, 0] [] (retK cfg Tryz.f25 Q))
@[irreducible] noncomputable def L_value_handles_1 (n m : Nat) (a0_Kind : Int) (a0_Namesu : Bool) (a0_Namesn : Nat) (a0_Namesc : List PV) (a0_Lu : Bool) (a0_Ln : Nat) (a0_Lc : List PV) (a0_R : Int) (a1_N : Int) (a1_Su : Bool) (a1_Sn : Nat) (a1_Sc : List PV) (a1_Lu : Bool) (a1_Ln : Nat) (a1_Lc : List PV) (x1_0 : Nat) (x1_1 : Nat) (x1_2 : Nat) (x1_3 : Int) (x1_4 : List PV) (x1_5 : List PV) (Q : PV → Store → Prop) : Prop := Pvm.Ends cfg (cl n) f_value_handles n (codeAt (bodyOf Tryz.f25) [1, 1, 1, 1, 0, 1, 0]) m
  { regs := [(2, .loc 2 0), (3, .loc 3 0), (6, .v (.bsl 0 x1_0 0 x1_1)), (7, .v (.bsl 1 x1_0 0 x1_2)), (26, .v (.sl a1_Lu a1_Ln a1_Lc)), (27, .v (i64 ((a1_Ln : Nat) : Int))), (28, .v (i64 x1_3))], st := ⟨[(2, [i64 a0_Kind, .sl a0_Namesu a0_Namesn a0_Namesc, .sl a0_Lu a0_Ln a0_Lc, i64 a0_R]), (3, [i64 a1_N, .sl a1_Su a1_Sn a1_Sc, .sl a1_Lu a1_Ln a1_Lc])], ⟨[(1, ⟨x1_0, 1, x1_4⟩), (0, ⟨x1_0, 4, x1_5⟩)], 2⟩⟩, nt := 51 }
  (contC cfg (cl n) f_value_handles n asks_value_handles (bodyOf Tryz.f25) [1, 1, 1, 1, 0, 1, 0] [] (retK cfg Tryz.f25 Q))
theorem vc_value_handles (n : Nat) (a0_Kind : Int) (a0_Namesu : Bool) (a0_Namesn : Nat) (a0_Namesc : List PV) (a0_Lu : Bool) (a0_Ln : Nat) (a0_Lc : List PV) (a0_R : Int) (a1_N : Int) (a1_Su : Bool) (a1_Sn : Nat) (a1_Sc : List PV) (a1_Lu : Bool) (a1_Ln : Nat) (a1_Lc : List PV) (Q : PV → Store → Prop)
  (h :
    br (decide (a0_Kind = (20)))
    (Q (.tup [.sl true 1 [i64 a0_Kind, .sl a0_Namesu a0_Namesn a0_Namesc, .sl a0_Lu a0_Ln a0_Lc, i64 a0_R], .sl true 1 [i64 a1_N]]) ⟨[], 0⟩)
    (br (decide (a0_Kind = (21)))
      (Q (.tup [.sl true 1 [i64 a0_Kind, .sl a0_Namesu a0_Namesn a0_Namesc, .sl a0_Lu a0_Ln a0_Lc, i64 a0_R], .sl true 1 [i64 a1_N]]) ⟨[], 0⟩)
      (L_value_handles_0 n n a0_Kind a0_Namesu a0_Namesn a0_Namesc a0_Lu a0_Ln a0_Lc a0_R a1_N a1_Su a1_Sn a1_Sc a1_Lu a1_Ln a1_Lc Q))) :
  Ret cfg (n + 1) f_value_handles [.agg [i64 a0_Kind, .sl a0_Namesu a0_Namesn a0_Namesc, .sl a0_Lu a0_Ln a0_Lc, i64 a0_R], .agg [i64 a1_N, .sl a1_Su a1_Sn a1_Sc, .sl a1_Lu a1_Ln a1_Lc]] ⟨[], 0⟩ Q :=
  vcRun_eq (fn := Tryz.f25) (asks := asks_value_handles) (by kernel_rfl) (by kernel_rfl) (by kernel_rfl) (by kernel_rfl) (by kernel_rfl) h
theorem lp_value_handles_0 (n m : Nat) (a0_Kind : Int) (a0_Namesu : Bool) (a0_Namesn : Nat) (a0_Namesc : List PV) (a0_Lu : Bool) (a0_Ln : Nat) (a0_Lc : List PV) (a0_R : Int) (a1_N : Int) (a1_Su : Bool) (a1_Sn : Nat) (a1_Sc : List PV) (a1_Lu : Bool) (a1_Ln : Nat) (a1_Lc : List PV) (Q : PV → Store → Prop)
  (h :
    br (decide ((0) < ((a1_Ln : Nat) : Int)))
    (((0 : Int) ≤ (0) ∧ (0) < ((a1_Ln : Nat) : Int) ∧ Int.toNat (0) * 3 < (a1_Lc : List PV).length) ∧
      ∃ (v1 : Int) (v2 : Bool) (v3 : Nat) (v4 : List PV) (v5 : Bool) (v6 : Nat) (v7 : List PV), (ld prog t_api_Val a1_Lc 0 (.agg [i64 v1, .sl v2 v3 v4, .sl v5 v6 v7])) ∧
      ∃ (v8 : Int) (v9 : Bool) (v10 : Nat) (v11 : List PV) (v12 : Bool) (v13 : Nat) (v14 : List PV) (v15 : Int), (cl n f_value_inner [.agg [i64 a0_Kind, .sl a0_Namesu a0_Namesn a0_Namesc, .sl a0_Lu a0_Ln a0_Lc, i64 a0_R], .agg [i64 a1_N, .sl a1_Su a1_Sn a1_Sc, .sl a1_Lu a1_Ln a1_Lc], i64 (0)] ⟨[], 0⟩ = some (.agg [i64 v8, .sl v9 v10 v11, .sl v12 v13 v14, i64 v15], ⟨[], 0⟩)) ∧
      ∃ (v16 : Bool) (v17 : Nat) (v18 : List PV) (v19 : Bool) (v20 : Nat) (v21 : List PV), (cl n f_value_handles [.agg [i64 v8, .sl v9 v10 v11, .sl v12 v13 v14, i64 v15], .agg [i64 v1, .sl v2 v3 v4, .sl v5 v6 v7]] ⟨[], 0⟩ = some (.tup [.sl v16 v17 v18, .sl v19 v20 v21], ⟨[], 0⟩)) ∧
      ((v18 : List PV).length = v17 * 4 ∧ (v18 : List PV).all oneC = true ∧ true = true ∧ ([] : List PV).length = 0 * 4 ∧ ([] : List PV).all oneC = true ∧ (0 + v17) * 64 ≤ 140737488355328 ∧ 0 + v17 ≤ 140737488355328 ∧ (0 = 0 ∨ 0 < v17)) ∧
      ((v21 : List PV).length = v20 * 1 ∧ (v21 : List PV).all oneC = true ∧ true = true ∧ ([] : List PV).length = 0 * 1 ∧ ([] : List PV).all oneC = true ∧ (0 + v20) * 8 ≤ 140737488355328 ∧ 0 + v20 ≤ 140737488355328 ∧ (0 = 0 ∨ 0 < v20)) ∧
      L_value_handles_1 n m a0_Kind a0_Namesu a0_Namesn a0_Namesc a0_Lu a0_Ln a0_Lc a0_R a1_N a1_Su a1_Sn a1_Sc a1_Lu a1_Ln a1_Lc 0 (0 + v17) (0 + v20) (1) ([] ++ v21) ([] ++ v18) Q)
    (Q (.tup [.sl true 0 [], .sl true 0 []]) ⟨[], 0⟩)) :
  L_value_handles_0 n (m + 1) a0_Kind a0_Namesu a0_Namesn a0_Namesc a0_Lu a0_Ln a0_Lc a0_R a1_N a1_Su a1_Sn a1_Sc a1_Lu a1_Ln a1_Lc Q := by
  unfold L_value_handles_0
  exact Ends_eq (asks := asks_value_handles) (by kernel_rfl) h
theorem lp_value_handles_1 (n m : Nat) (a0_Kind : Int) (a0_Namesu : Bool) (a0_Namesn : Nat) (a0_Namesc : List PV) (a0_Lu : Bool) (a0_Ln : Nat) (a0_Lc : List PV) (a0_R : Int) (a1_N : Int) (a1_Su : Bool) (a1_Sn : Nat) (a1_Sc : List PV) (a1_Lu : Bool) (a1_Ln : Nat) (a1_Lc : List PV) (x1_0 : Nat) (x1_1 : Nat) (x1_2 : Nat) (x1_3 : Int) (x1_4 : List PV) (x1_5 : List PV) (Q : PV → Store → Prop)
  (h :
    br (decide (x1_3 < ((a1_Ln : Nat) : Int)))
    (((0 : Int) ≤ x1_3 ∧ x1_3 < ((a1_Ln : Nat) : Int) ∧ Int.toNat x1_3 * 3 < (a1_Lc : List PV).length) ∧
      ∃ (v1 : Int) (v2 : Bool) (v3 : Nat) (v4 : List PV) (v5 : Bool) (v6 : Nat) (v7 : List PV), (ld prog t_api_Val a1_Lc (Int.toNat x1_3 * 3) (.agg [i64 v1, .sl v2 v3 v4, .sl v5 v6 v7])) ∧
      ∃ (v8 : Int) (v9 : Bool) (v10 : Nat) (v11 : List PV) (v12 : Bool) (v13 : Nat) (v14 : List PV) (v15 : Int), (cl n f_value_inner [.agg [i64 a0_Kind, .sl a0_Namesu a0_Namesn a0_Namesc, .sl a0_Lu a0_Ln a0_Lc, i64 a0_R], .agg [i64 a1_N, .sl a1_Su a1_Sn a1_Sc, .sl a1_Lu a1_Ln a1_Lc], i64 x1_3] ⟨[(1, ⟨x1_0, 1, x1_4⟩), (0, ⟨x1_0, 4, x1_5⟩)], 2⟩ = some (.agg [i64 v8, .sl v9 v10 v11, .sl v12 v13 v14, i64 v15], ⟨[(1, ⟨x1_0, 1, x1_4⟩), (0, ⟨x1_0, 4, x1_5⟩)], 2⟩)) ∧
      ∃ (v16 : Bool) (v17 : Nat) (v18 : List PV) (v19 : Bool) (v20 : Nat) (v21 : List PV), (cl n f_value_handles [.agg [i64 v8, .sl v9 v10 v11, .sl v12 v13 v14, i64 v15], .agg [i64 v1, .sl v2 v3 v4, .sl v5 v6 v7]] ⟨[(1, ⟨x1_0, 1, x1_4⟩), (0, ⟨x1_0, 4, x1_5⟩)], 2⟩ = some (.tup [.sl v16 v17 v18, .sl v19 v20 v21], ⟨[(1, ⟨x1_0, 1, x1_4⟩), (0, ⟨x1_0, 4, x1_5⟩)], 2⟩)) ∧
      ((v18 : List PV).length = v17 * 4 ∧ (v18 : List PV).all oneC = true ∧ x1_0 = x1_0 ∧ 0 = 0 ∧ 4 = 4 ∧ x1_1 * 4 ≤ (x1_5 : List PV).length ∧ ((List.take (x1_1 * 4) x1_5) : List PV).all oneC = true ∧ (x1_1 + v17) * 64 ≤ 140737488355328 ∧ x1_1 + v17 ≤ 140737488355328) ∧
      ((v21 : List PV).length = v20 * 1 ∧ (v21 : List PV).all oneC = true ∧ x1_0 = x1_0 ∧ 0 = 0 ∧ 1 = 1 ∧ x1_2 * 1 ≤ (x1_4 : List PV).length ∧ ((List.take (x1_2 * 1) x1_4) : List PV).all oneC = true ∧ (x1_2 + v20) * 8 ≤ 140737488355328 ∧ x1_2 + v20 ≤ 140737488355328) ∧
      L_value_handles_1 n m a0_Kind a0_Namesu a0_Namesn a0_Namesc a0_Lu a0_Ln a0_Lc a0_R a1_N a1_Su a1_Sn a1_Sc a1_Lu a1_Ln a1_Lc (x1_0 + 1) (x1_1 + v17) (x1_2 + v20) (IntKind.i64.wrap (x1_3 + (1))) ((List.take (x1_2 * 1) x1_4) ++ v21) ((List.take (x1_1 * 4) x1_5) ++ v18) Q)
    (Q (.tup [.bsl 0 x1_0 0 x1_1, .bsl 1 x1_0 0 x1_2]) ⟨[(1, ⟨x1_0, 1, x1_4⟩), (0, ⟨x1_0, 4, x1_5⟩)], 2⟩)) :
  L_value_handles_1 n (m + 1) a0_Kind a0_Namesu a0_Namesn a0_Namesc a0_Lu a0_Ln a0_Lc a0_R a1_N a1_Su a1_Sn a1_Sc a1_Lu a1_Ln a1_Lc x1_0 x1_1 x1_2 x1_3 x1_4 x1_5 Q := by
  unfold L_value_handles_1
  exact Ends_eq (asks := asks_value_handles) (by kernel_rfl) h
/-! ### scarf/scarfref13.May -/
def asks_scarfref13_May : Asks := [(1001, .told (.sh (.one (.bool)))), (1004, .told (.sh (.one (.int .i64))))]
theorem vc_scarfref13_May (n : Nat) (a0_Kind : Int) (a0_Namesu : Bool) (a0_Namesn : Nat) (a0_Namesc : List PV) (a0_Lu : Bool) (a0_Ln : Nat) (a0_Lc : List PV) (a0_R : Int) (Q : PV → Store → Prop)
  (h :
    ∃ (v1 : Bool), (cl n f_scarfref13_deep [.agg [i64 a0_Kind, .sl a0_Namesu a0_Namesn a0_Namesc, .sl a0_Lu a0_Ln a0_Lc, i64 a0_R], i64 (0)] ⟨[], 0⟩ = some (.s (.bool v1), ⟨[], 0⟩)) ∧
    br v1
    (∃ (v2 : Int), (cl n f_scarfref13_parts [.agg [i64 a0_Kind, .sl a0_Namesu a0_Namesn a0_Namesc, .sl a0_Lu a0_Ln a0_Lc, i64 a0_R]] ⟨[], 0⟩ = some (i64 v2, ⟨[], 0⟩)) ∧
      Q (.s (.bool (decide (v2 ≤ (500))))) ⟨[], 0⟩)
    (Q (.s (.bool false)) ⟨[], 0⟩)) :
  Ret cfg (n + 1) f_scarfref13_May [.agg [i64 a0_Kind, .sl a0_Namesu a0_Namesn a0_Namesc, .sl a0_Lu a0_Ln a0_Lc, i64 a0_R]] ⟨[], 0⟩ Q :=
  vcRun_eq (fn := Tryz.f26) (asks := asks_scarfref13_May) (by kernel_rfl) (by kernel_rfl) (by kernel_rfl) (by kernel_rfl) (by kernel_rfl) h
/-! ### scarf/scarfref15.Parts -/
def asks_scarfref15_Parts : Asks := [(1004, .told (.sh (.one (.int .i64)))), (7002, .told (.sh (.one (.bool)))), (14003, .cond), (14004, .told (.sh (.one (.int .i64)))), (14005, .told (.sh (.one (.bool)))), (30002, .told (.sh (.one (.int .i64))))]
@[irreducible] noncomputable def L_scarfref15_Parts_0 (n m : Nat) (a0_Kind : Int) (a0_Namesu : Bool) (a0_Namesn : Nat) (a0_Namesc : List PV) (a0_Lu : Bool) (a0_Ln : Nat) (a0_Lc : List PV) (a0_R : Int) (a1_N : Int) (a1_Su : Bool) (a1_Sn : Nat) (a1_Sc : List PV) (a1_Lu : Bool) (a1_Ln : Nat) (a1_Lc : List PV) (x0_0 : Int) (Q : PV → Store → Prop) : Prop := Pvm.Ends cfg (cl n) f_scarfref15_Parts n (codeAt (bodyOf Tryz.f27) [1, 1, 1, 1, 0, 1, 0, 0, 1, 0]) m
  { regs := [(2, .loc 2 0), (3, .loc 3 0), (6, .v (i64 x0_0)), (7, .v (.any)), (8, .v (.any))], st := ⟨[(2, [i64 a0_Kind, .sl a0_Namesu a0_Namesn a0_Namesc, .sl a0_Lu a0_Ln a0_Lc, i64 a0_R]), (3, [i64 a1_N, .sl a1_Su a1_Sn a1_Sc, .sl a1_Lu a1_Ln a1_Lc])], ⟨[], 0⟩⟩, nt := 119 }
  (contC cfg (cl n) f_scarfref15_Parts n asks_scarfref15_Parts (bodyOf Tryz.f27) [1, 1, 1, 1, 0, 1, 0, 0, 1, 0] [] (retK cfg Tryz.f27 Q))
@[irreducible] noncomputable def L_scarfref15_Parts_1 (n m : Nat) (a0_Kind : Int) (a0_Namesu : Bool) (a0_Namesn : Nat) (a0_Namesc : List PV) (a0_Lu : Bool) (a0_Ln : Nat) (a0_Lc : List PV) (a0_R : Int) (a1_N : Int) (a1_Su : Bool) (a1_Sn : Nat) (a1_Sc : List PV) (a1_Lu : Bool) (a1_Ln : Nat) (a1_Lc : List PV) (x1_0 : Int) (x1_1 : Int) (Q : PV → Store → Prop) : Prop := Pvm.Ends cfg (cl n) f_scarfref15_Parts n (codeAt (bodyOf Tryz.f27) [1, 1, 1, 1, 1, 1, 0, 1, 0, 1, 0, 1, 0]) m
  { regs := [(2, .loc 2 0), (3, .loc 3 0), (6, .v (.any)), (7, .v (i64 x1_0)), (8, .v (i64 x1_1))], st := ⟨[(2, [i64 a0_Kind, .sl a0_Namesu a0_Namesn a0_Namesc, .sl a0_Lu a0_Ln a0_Lc, i64 a0_R]), (3, [i64 a1_N, .sl a1_Su a1_Sn a1_Sc, .sl a1_Lu a1_Ln a1_Lc])], ⟨[], 0⟩⟩, nt := 119 }
  (contC cfg (cl n) f_scarfref15_Parts n asks_scarfref15_Parts (bodyOf Tryz.f27) [1, 1, 1, 1, 1, 1, 0, 1, 0, 1, 0, 1, 0] [] (retK cfg Tryz.f27 Q))
theorem vc_scarfref15_Parts (n : Nat) (a0_Kind : Int) (a0_Namesu : Bool) (a0_Namesn : Nat) (a0_Namesc : List PV) (a0_Lu : Bool) (a0_Ln : Nat) (a0_Lc : List PV) (a0_R : Int) (a1_N : Int) (a1_Su : Bool) (a1_Sn : Nat) (a1_Sc : List PV) (a1_Lu : Bool) (a1_Ln : Nat) (a1_Lc : List PV) (Q : PV → Store → Prop)
  (h :
    ∃ (v1 : Int), (cl n f_scarfref15_whole [i64 a0_Kind, i64 a1_N] ⟨[], 0⟩ = some (i64 v1, ⟨[], 0⟩)) ∧
    br (decide (v1 > (0)))
    (br (decide (v1 = (1)))
      (Q (i64 (0)) ⟨[], 0⟩)
      (br (decide (((a1_Sn : Nat) : Int) > (0)))
        (Q (i64 (0)) ⟨[], 0⟩)
        (br (decide (((a1_Ln : Nat) : Int) > (0)))
          (Q (i64 (0)) ⟨[], 0⟩)
          (Q (i64 (1)) ⟨[], 0⟩))))
    (br (decide (a0_Kind = (10)))
      (∃ (v2 : Bool), (cl n f_scarfref02_Scalar [i64 a1_N] ⟨[], 0⟩ = some (.s (.bool v2), ⟨[], 0⟩)) ∧
        br (!v2)
        (Q (i64 (0)) ⟨[], 0⟩)
        (br (decide (((a1_Sn : Nat) : Int) > (0)))
          (Q (i64 (0)) ⟨[], 0⟩)
          (br (decide (((a1_Ln : Nat) : Int) > (0)))
            (Q (i64 (0)) ⟨[], 0⟩)
            (Q (i64 (1)) ⟨[], 0⟩))))
      (br (decide (a0_Kind = (11)))
        (L_scarfref15_Parts_0 n n a0_Kind a0_Namesu a0_Namesn a0_Namesc a0_Lu a0_Ln a0_Lc a0_R a1_N a1_Su a1_Sn a1_Sc a1_Lu a1_Ln a1_Lc (0) Q)
        (br (decide (((a1_Sn : Nat) : Int) > (0)))
          (Q (i64 (0)) ⟨[], 0⟩)
          (br (decide (a0_Kind = (19)))
            (L_scarfref15_Parts_1 n n a0_Kind a0_Namesu a0_Namesn a0_Namesc a0_Lu a0_Ln a0_Lc a0_R a1_N a1_Su a1_Sn a1_Sc a1_Lu a1_Ln a1_Lc (1) (0) Q)
            (∃ (v3 : Int), (cl n f_scarfref15_inside [.agg [i64 a0_Kind, .sl a0_Namesu a0_Namesn a0_Namesc, .sl a0_Lu a0_Ln a0_Lc, i64 a0_R], .agg [i64 a1_N, .sl a1_Su a1_Sn a1_Sc, .sl a1_Lu a1_Ln a1_Lc]] ⟨[], 0⟩ = some (i64 v3, ⟨[], 0⟩)) ∧
              Q (i64 v3) ⟨[], 0⟩)))))) :
  Ret cfg (n + 1) f_scarfref15_Parts [.agg [i64 a0_Kind, .sl a0_Namesu a0_Namesn a0_Namesc, .sl a0_Lu a0_Ln a0_Lc, i64 a0_R], .agg [i64 a1_N, .sl a1_Su a1_Sn a1_Sc, .sl a1_Lu a1_Ln a1_Lc]] ⟨[], 0⟩ Q :=
  vcRun_eq (fn := Tryz.f27) (asks := asks_scarfref15_Parts) (by kernel_rfl) (by kernel_rfl) (by kernel_rfl) (by kernel_rfl) (by kernel_rfl) h
theorem lp_scarfref15_Parts_0 (n m : Nat) (a0_Kind : Int) (a0_Namesu : Bool) (a0_Namesn : Nat) (a0_Namesc : List PV) (a0_Lu : Bool) (a0_Ln : Nat) (a0_Lc : List PV) (a0_R : Int) (a1_N : Int) (a1_Su : Bool) (a1_Sn : Nat) (a1_Sc : List PV) (a1_Lu : Bool) (a1_Ln : Nat) (a1_Lc : List PV) (x0_0 : Int) (Q : PV → Store → Prop)
  (h :
    br (decide (x0_0 < ((a1_Sn : Nat) : Int)))
    (((0 : Int) ≤ x0_0 ∧ x0_0 < ((a1_Sn : Nat) : Int) ∧ Int.toNat x0_0 * 1 < (a1_Sc : List PV).length) ∧
      ∃ (v1 : Int), (ld prog t_int a1_Sc (Int.toNat x0_0 * 1) (i64 v1)) ∧
      ∃ (v2 : Bool), (cl n f_scarfref02_Scalar [i64 v1] ⟨[], 0⟩ = some (.s (.bool v2), ⟨[], 0⟩)) ∧
      br (!v2)
      (Q (i64 (0)) ⟨[], 0⟩)
      (L_scarfref15_Parts_0 n m a0_Kind a0_Namesu a0_Namesn a0_Namesc a0_Lu a0_Ln a0_Lc a0_R a1_N a1_Su a1_Sn a1_Sc a1_Lu a1_Ln a1_Lc (IntKind.i64.wrap (x0_0 + (1))) Q))
    (br (!(decide (a1_N = (0))))
      (Q (i64 (0)) ⟨[], 0⟩)
      (br (decide (((a1_Ln : Nat) : Int) > (0)))
        (Q (i64 (0)) ⟨[], 0⟩)
        (br (decide (((a1_Sn : Nat) : Int) > (1000)))
          (Q (i64 (0)) ⟨[], 0⟩)
          (Q (i64 (IntKind.i64.wrap ((1) + ((a1_Sn : Nat) : Int)))) ⟨[], 0⟩))))) :
  L_scarfref15_Parts_0 n (m + 1) a0_Kind a0_Namesu a0_Namesn a0_Namesc a0_Lu a0_Ln a0_Lc a0_R a1_N a1_Su a1_Sn a1_Sc a1_Lu a1_Ln a1_Lc x0_0 Q := by
  unfold L_scarfref15_Parts_0
  exact Ends_eq (asks := asks_scarfref15_Parts) (by kernel_rfl) h
theorem lp_scarfref15_Parts_1 (n m : Nat) (a0_Kind : Int) (a0_Namesu : Bool) (a0_Namesn : Nat) (a0_Namesc : List PV) (a0_Lu : Bool) (a0_Ln : Nat) (a0_Lc : List PV) (a0_R : Int) (a1_N : Int) (a1_Su : Bool) (a1_Sn : Nat) (a1_Sc : List PV) (a1_Lu : Bool) (a1_Ln : Nat) (a1_Lc : List PV) (x1_0 : Int) (x1_1 : Int) (Q : PV → Store → Prop)
  (h :
    br (decide (x1_1 < ((a0_Namesn : Nat) : Int)))
    (L_scarfref15_Parts_1 n m a0_Kind a0_Namesu a0_Namesn a0_Namesc a0_Lu a0_Ln a0_Lc a0_R a1_N a1_Su a1_Sn a1_Sc a1_Lu a1_Ln a1_Lc (IntKind.i64.wrap (x1_0 * (2))) (IntKind.i64.wrap (x1_1 + (1))) Q)
    (br (decide (a1_N < (0)))
      (Q (i64 (0)) ⟨[], 0⟩)
      (br (decide (a1_N ≥ x1_0))
        (Q (i64 (0)) ⟨[], 0⟩)
        (br (decide (((a1_Ln : Nat) : Int) > (0)))
          (Q (i64 (0)) ⟨[], 0⟩)
          (Q (i64 (1)) ⟨[], 0⟩))))) :
  L_scarfref15_Parts_1 n (m + 1) a0_Kind a0_Namesu a0_Namesn a0_Namesc a0_Lu a0_Ln a0_Lc a0_R a1_N a1_Su a1_Sn a1_Sc a1_Lu a1_Ln a1_Lc x1_0 x1_1 Q := by
  unfold L_scarfref15_Parts_1
  exact Ends_eq (asks := asks_scarfref15_Parts) (by kernel_rfl) h
/-! ### scarf/scarfref15.Inside -/
def asks_scarfref15_Inside : Asks := [(6003, .cond), (6004, .told (.sh (.agg [.int .i64, .sl, .sl, .int .i64]))), (6006, .cond), (11001, .told (.sh (.agg [.int .i64, .sl, .sl, .int .i64]))), (14004, .cond), (14006, .told (.sh (.one (.int .i64)))), (15005, .cond), (15006, .told (.sh (.agg [.int .i64, .sl, .sl, .int .i64]))), (15008, .cond)]
@[irreducible] noncomputable def L_scarfref15_Inside_0 (n m : Nat) (a0_Kind : Int) (a0_Namesu : Bool) (a0_Namesn : Nat) (a0_Namesc : List PV) (a0_Lu : Bool) (a0_Ln : Nat) (a0_Lc : List PV) (a0_R : Int) (a1_N : Int) (a1_Su : Bool) (a1_Sn : Nat) (a1_Sc : List PV) (a1_Lu : Bool) (a1_Ln : Nat) (a1_Lc : List PV) (Q : PV → Store → Prop) : Prop := Pvm.Ends cfg (cl n) f_scarfref15_Inside n (codeAt (bodyOf Tryz.f28) [1, 1, 0, 1, 0, 0, 1, 0]) m
  { regs := [(2, .loc 2 0), (3, .loc 3 0), (6, .v (.sl true 0 [])), (7, .v (i64 (0)))], st := ⟨[(2, [i64 a0_Kind, .sl a0_Namesu a0_Namesn a0_Namesc, .sl a0_Lu a0_Ln a0_Lc, i64 a0_R]), (3, [i64 a1_N, .sl a1_Su a1_Sn a1_Sc, .sl a1_Lu a1_Ln a1_Lc])], ⟨[], 0⟩⟩, nt := 111 }
  (contC cfg (cl n) f_scarfref15_Inside n asks_scarfref15_Inside (bodyOf Tryz.f28) [1, 1, 0, 1, 0, 0, 1, 0] [] (retK cfg Tryz.f28 Q))
@[irreducible] noncomputable def L_scarfref15_Inside_1 (n m : Nat) (a0_Kind : Int) (a0_Namesu : Bool) (a0_Namesn : Nat) (a0_Namesc : List PV) (a0_Lu : Bool) (a0_Ln : Nat) (a0_Lc : List PV) (a0_R : Int) (a1_N : Int) (a1_Su : Bool) (a1_Sn : Nat) (a1_Sc : List PV) (a1_Lu : Bool) (a1_Ln : Nat) (a1_Lc : List PV) (x1_0 : Nat) (x1_1 : Nat) (x1_2 : Int) (x1_3 : List PV) (Q : PV → Store → Prop) : Prop := Pvm.Ends cfg (cl n) f_scarfref15_Inside n (codeAt (bodyOf Tryz.f28) [1, 1, 0, 1, 0, 0, 1, 0]) m
  { regs := [(2, .loc 2 0), (3, .loc 3 0), (6, .v (.bsl 0 x1_0 0 x1_1)), (7, .v (i64 x1_2))], st := ⟨[(2, [i64 a0_Kind, .sl a0_Namesu a0_Namesn a0_Namesc, .sl a0_Lu a0_Ln a0_Lc, i64 a0_R]), (3, [i64 a1_N, .sl a1_Su a1_Sn a1_Sc, .sl a1_Lu a1_Ln a1_Lc])], ⟨[(0, ⟨x1_0, 4, x1_3⟩)], 1⟩⟩, nt := 111 }
  (contC cfg (cl n) f_scarfref15_Inside n asks_scarfref15_Inside (bodyOf Tryz.f28) [1, 1, 0, 1, 0, 0, 1, 0] [] (retK cfg Tryz.f28 Q))
theorem vc_scarfref15_Inside (n : Nat) (a0_Kind : Int) (a0_Namesu : Bool) (a0_Namesn : Nat) (a0_Namesc : List PV) (a0_Lu : Bool) (a0_Ln : Nat) (a0_Lc : List PV) (a0_R : Int) (a1_N : Int) (a1_Su : Bool) (a1_Sn : Nat) (a1_Sc : List PV) (a1_Lu : Bool) (a1_Ln : Nat) (a1_Lc : List PV) (Q : PV → Store → Prop)
  (h :
    br (decide (a0_Kind = (12)))
    (L_scarfref15_Inside_0 n n a0_Kind a0_Namesu a0_Namesn a0_Namesc a0_Lu a0_Ln a0_Lc a0_R a1_N a1_Su a1_Sn a1_Sc a1_Lu a1_Ln a1_Lc Q)
    (br (decide (a0_Kind = (13)))
      (br (decide (a1_N = (0)))
        (Q (.tup [.sl a0_Lu a0_Ln a0_Lc, .s (.bool (decide (((a1_Ln : Nat) : Int) = ((a0_Ln : Nat) : Int))))]) ⟨[], 0⟩)
        (Q (.tup [.sl a0_Lu a0_Ln a0_Lc, .s (.bool false)]) ⟨[], 0⟩))
      (br (decide (a0_Kind = (14)))
        (br (decide (a1_N = (0)))
          (Q (.tup [.sl a0_Lu a0_Ln a0_Lc, .s (.bool (decide (((a1_Ln : Nat) : Int) = ((a0_Ln : Nat) : Int))))]) ⟨[], 0⟩)
          (Q (.tup [.sl a0_Lu a0_Ln a0_Lc, .s (.bool false)]) ⟨[], 0⟩))
        (br (decide (a0_Kind ≥ (15)))
          (br (decide (a0_Kind ≤ (18)))
            (∃ (v1 : Int) (v2 : Bool) (v3 : Nat) (v4 : List PV) (v5 : Bool) (v6 : Nat) (v7 : List PV) (v8 : Int), (cl n f_scarfref13_Plain [.agg [i64 a0_Kind, .sl a0_Namesu a0_Namesn a0_Namesc, .sl a0_Lu a0_Ln a0_Lc, i64 a0_R]] ⟨[], 0⟩ = some (.agg [i64 v1, .sl v2 v3 v4, .sl v5 v6 v7, i64 v8], ⟨[], 0⟩)) ∧
              br (decide (a1_N < (0)))
              (Q (.tup [.sl true 0 [], .s (.bool false)]) ⟨[], 0⟩)
              (br (decide (a1_N ≥ ((v6 : Nat) : Int)))
                (Q (.tup [.sl true 0 [], .s (.bool false)]) ⟨[], 0⟩)
                (((0 : Int) ≤ a1_N ∧ a1_N < ((v6 : Nat) : Int) ∧ Int.toNat a1_N * 4 < (v7 : List PV).length) ∧
                  ∃ (v9 : Int), (ld prog t_int v7 ((Int.toNat a1_N * 4) + 0) (i64 v9)) ∧
                  br (!(decide (v9 = (0))))
                  (((0 : Int) ≤ a1_N ∧ a1_N < ((v6 : Nat) : Int) ∧ Int.toNat a1_N * 4 < (v7 : List PV).length) ∧
                    ∃ (v10 : Int) (v11 : Bool) (v12 : Nat) (v13 : List PV) (v14 : Bool) (v15 : Nat) (v16 : List PV) (v17 : Int), (ld prog t_api_Type v7 (Int.toNat a1_N * 4) (.agg [i64 v10, .sl v11 v12 v13, .sl v14 v15 v16, i64 v17])) ∧
                    (([i64 v10, .sl v11 v12 v13, .sl v14 v15 v16, i64 v17] : List PV).length = 1 * 4 ∧ ([i64 v10, .sl v11 v12 v13, .sl v14 v15 v16, i64 v17] : List PV).all oneC = true ∧ true = true ∧ ([] : List PV).length = 0 * 4 ∧ ([] : List PV).all oneC = true ∧ (0 + 1) * 64 ≤ 140737488355328 ∧ 0 + 1 ≤ 140737488355328 ∧ (0 = 0 ∨ 0 < 1)) ∧
                    Q (.tup [.bsl 0 0 0 1, .s (.bool (decide (((a1_Ln : Nat) : Int) = (1))))]) ⟨[(0, ⟨0, 4, [i64 v10, .sl v11 v12 v13, .sl v14 v15 v16, i64 v17]⟩)], 1⟩)
                  (Q (.tup [.sl true 0 [], .s (.bool (decide (((a1_Ln : Nat) : Int) = (0))))]) ⟨[], 0⟩))))
            (Q (.tup [.sl true 0 [], .s (.bool (decide (((a1_Ln : Nat) : Int) = (0))))]) ⟨[], 0⟩))
          (Q (.tup [.sl true 0 [], .s (.bool (decide (((a1_Ln : Nat) : Int) = (0))))]) ⟨[], 0⟩))))) :
  Ret cfg (n + 1) f_scarfref15_Inside [.agg [i64 a0_Kind, .sl a0_Namesu a0_Namesn a0_Namesc, .sl a0_Lu a0_Ln a0_Lc, i64 a0_R], .agg [i64 a1_N, .sl a1_Su a1_Sn a1_Sc, .sl a1_Lu a1_Ln a1_Lc]] ⟨[], 0⟩ Q :=
  vcRun_eq (fn := Tryz.f28) (asks := asks_scarfref15_Inside) (by kernel_rfl) (by kernel_rfl) (by kernel_rfl) (by kernel_rfl) (by kernel_rfl) h
theorem lp_scarfref15_Inside_0 (n m : Nat) (a0_Kind : Int) (a0_Namesu : Bool) (a0_Namesn : Nat) (a0_Namesc : List PV) (a0_Lu : Bool) (a0_Ln : Nat) (a0_Lc : List PV) (a0_R : Int) (a1_N : Int) (a1_Su : Bool) (a1_Sn : Nat) (a1_Sc : List PV) (a1_Lu : Bool) (a1_Ln : Nat) (a1_Lc : List PV) (Q : PV → Store → Prop)
  (h :
    br (decide ((0) < ((a1_Ln : Nat) : Int)))
    (((0 : Int) ≤ (0) ∧ (0) < ((a0_Ln : Nat) : Int) ∧ Int.toNat (0) * 4 < (a0_Lc : List PV).length) ∧
      ∃ (v1 : Int) (v2 : Bool) (v3 : Nat) (v4 : List PV) (v5 : Bool) (v6 : Nat) (v7 : List PV) (v8 : Int), (ld prog t_api_Type a0_Lc 0 (.agg [i64 v1, .sl v2 v3 v4, .sl v5 v6 v7, i64 v8])) ∧
      (([i64 v1, .sl v2 v3 v4, .sl v5 v6 v7, i64 v8] : List PV).length = 1 * 4 ∧ ([i64 v1, .sl v2 v3 v4, .sl v5 v6 v7, i64 v8] : List PV).all oneC = true ∧ true = true ∧ ([] : List PV).length = 0 * 4 ∧ ([] : List PV).all oneC = true ∧ (0 + 1) * 64 ≤ 140737488355328 ∧ 0 + 1 ≤ 140737488355328 ∧ (0 = 0 ∨ 0 < 1)) ∧
      L_scarfref15_Inside_1 n m a0_Kind a0_Namesu a0_Namesn a0_Namesc a0_Lu a0_Ln a0_Lc a0_R a1_N a1_Su a1_Sn a1_Sc a1_Lu a1_Ln a1_Lc 0 1 (1) [i64 v1, .sl v2 v3 v4, .sl v5 v6 v7, i64 v8] Q)
    (br (decide (a1_N = (0)))
      (Q (.tup [.sl true 0 [], .s (.bool (decide (((a1_Ln : Nat) : Int) ≤ (1000))))]) ⟨[], 0⟩)
      (Q (.tup [.sl true 0 [], .s (.bool false)]) ⟨[], 0⟩))) :
  L_scarfref15_Inside_0 n (m + 1) a0_Kind a0_Namesu a0_Namesn a0_Namesc a0_Lu a0_Ln a0_Lc a0_R a1_N a1_Su a1_Sn a1_Sc a1_Lu a1_Ln a1_Lc Q := by
  unfold L_scarfref15_Inside_0
  exact Ends_eq (asks := asks_scarfref15_Inside) (by kernel_rfl) h
theorem lp_scarfref15_Inside_1 (n m : Nat) (a0_Kind : Int) (a0_Namesu : Bool) (a0_Namesn : Nat) (a0_Namesc : List PV) (a0_Lu : Bool) (a0_Ln : Nat) (a0_Lc : List PV) (a0_R : Int) (a1_N : Int) (a1_Su : Bool) (a1_Sn : Nat) (a1_Sc : List PV) (a1_Lu : Bool) (a1_Ln : Nat) (a1_Lc : List PV) (x1_0 : Nat) (x1_1 : Nat) (x1_2 : Int) (x1_3 : List PV) (Q : PV → Store → Prop)
  (h :
    br (decide (x1_2 < ((a1_Ln : Nat) : Int)))
    (br (decide (x1_2 ≤ (1000)))
      (((0 : Int) ≤ (0) ∧ (0) < ((a0_Ln : Nat) : Int) ∧ Int.toNat (0) * 4 < (a0_Lc : List PV).length) ∧
        ∃ (v1 : Int) (v2 : Bool) (v3 : Nat) (v4 : List PV) (v5 : Bool) (v6 : Nat) (v7 : List PV) (v8 : Int), (ld prog t_api_Type a0_Lc 0 (.agg [i64 v1, .sl v2 v3 v4, .sl v5 v6 v7, i64 v8])) ∧
        (([i64 v1, .sl v2 v3 v4, .sl v5 v6 v7, i64 v8] : List PV).length = 1 * 4 ∧ ([i64 v1, .sl v2 v3 v4, .sl v5 v6 v7, i64 v8] : List PV).all oneC = true ∧ x1_0 = x1_0 ∧ 0 = 0 ∧ 4 = 4 ∧ x1_1 * 4 ≤ (x1_3 : List PV).length ∧ ((List.take (x1_1 * 4) x1_3) : List PV).all oneC = true ∧ (x1_1 + 1) * 64 ≤ 140737488355328 ∧ x1_1 + 1 ≤ 140737488355328) ∧
        L_scarfref15_Inside_1 n m a0_Kind a0_Namesu a0_Namesn a0_Namesc a0_Lu a0_Ln a0_Lc a0_R a1_N a1_Su a1_Sn a1_Sc a1_Lu a1_Ln a1_Lc (x1_0 + 1) (x1_1 + 1) (IntKind.i64.wrap (x1_2 + (1))) ((List.take (x1_1 * 4) x1_3) ++ [i64 v1, .sl v2 v3 v4, .sl v5 v6 v7, i64 v8]) Q)
      (br (decide (a1_N = (0)))
        (Q (.tup [.bsl 0 x1_0 0 x1_1, .s (.bool (decide (((a1_Ln : Nat) : Int) ≤ (1000))))]) ⟨[(0, ⟨x1_0, 4, x1_3⟩)], 1⟩)
        (Q (.tup [.bsl 0 x1_0 0 x1_1, .s (.bool false)]) ⟨[(0, ⟨x1_0, 4, x1_3⟩)], 1⟩)))
    (br (decide (a1_N = (0)))
      (Q (.tup [.bsl 0 x1_0 0 x1_1, .s (.bool (decide (((a1_Ln : Nat) : Int) ≤ (1000))))]) ⟨[(0, ⟨x1_0, 4, x1_3⟩)], 1⟩)
      (Q (.tup [.bsl 0 x1_0 0 x1_1, .s (.bool false)]) ⟨[(0, ⟨x1_0, 4, x1_3⟩)], 1⟩))) :
  L_scarfref15_Inside_1 n (m + 1) a0_Kind a0_Namesu a0_Namesn a0_Namesc a0_Lu a0_Ln a0_Lc a0_R a1_N a1_Su a1_Sn a1_Sc a1_Lu a1_Ln a1_Lc x1_0 x1_1 x1_2 x1_3 Q := by
  unfold L_scarfref15_Inside_1
  exact Ends_eq (asks := asks_scarfref15_Inside) (by kernel_rfl) h
/-! ### slices.ContainsFunc[[]int,int] -/
def asks_slices_ContainsFunc_sl_int_int : Asks := [(1002, .told (.sh (.one (.int .i64))))]
theorem vc_slices_ContainsFunc_sl_int_int (n : Nat) (a0u : Bool) (a0n : Nat) (a0c : List PV) (Q : PV → Store → Prop)
  (h :
    ∃ (v1 : Int), (cl n f_slices_IndexFunc_sl_int_int [.sl a0u a0n a0c, .fn (.func f_value_parts_1) [] []] ⟨[], 0⟩ = some (i64 v1, ⟨[], 0⟩)) ∧
    Q (.s (.bool (decide (v1 ≥ (0))))) ⟨[], 0⟩) :
  Ret cfg (n + 1) f_slices_ContainsFunc_sl_int_int [.sl a0u a0n a0c, .fn (.func f_value_parts_1) [] []] ⟨[], 0⟩ Q :=
  vcRun_eq (fn := Tryz.f29) (asks := asks_slices_ContainsFunc_sl_int_int) (by kernel_rfl) (by kernel_rfl) (by kernel_rfl) (by kernel_rfl) (by kernel_rfl) h
/-! ### scarf/value.With$1 -/
def asks_value_With_1 : Asks := []
theorem vc_value_With_1 (n : Nat) (a0 : Int) (Q : PV → Store → Prop)
  (h :
    br (decide (a0 < (0)))
    (Q (.s (.bool true)) ⟨[], 0⟩)
    (Q (.s (.bool (decide (a0 ≥ (4294967296))))) ⟨[], 0⟩)) :
  Ret cfg (n + 1) f_value_With_1 [i64 a0] ⟨[], 0⟩ Q :=
  vcRun_eq (fn := Tryz.f30) (asks := asks_value_With_1) (by kernel_rfl) (by kernel_rfl) (by kernel_rfl) (by kernel_rfl) (by kernel_rfl) h
/-! ### scarf/value.with -/
def asks_value_with : Asks := [(2001, .cond), (2002, .told (.sh (.one (.int .i64)))), (2005, .cond), (3004, .told (.sh (.one (.sl)))), (6001, .cond), (6002, .told (.sh (.agg [.int .i64, .sl, .sl]))), (8003, .told (.sh (.agg [.int .i64, .sl, .sl, .int .i64]))), (8006, .told (.tup [.agg [.int .i64, .sl, .sl], .one (.sl)])), (9004, .cond)]
@[irreducible] noncomputable def L_value_with_0 (n m : Nat) (a0_Kind : Int) (a0_Namesu : Bool) (a0_Namesn : Nat) (a0_Namesc : List PV) (a0_Lu : Bool) (a0_Ln : Nat) (a0_Lc : List PV) (a0_R : Int) (a1_N : Int) (a1_Su : Bool) (a1_Sn : Nat) (a1_Sc : List PV) (a1_Lu : Bool) (a1_Ln : Nat) (a1_Lc : List PV) (a2u : Bool) (a2n : Nat) (a2c : List PV) (x0_0 : Bool) (x0_1 : Nat) (x0_2 : List PV) (Q : PV → Store → Prop) : Prop := Pvm.Ends cfg (cl n) f_value_with n (codeAt (bodyOf Tryz.f31) [1, 1, 1, 0, 1, 0]) m
  { regs := [(2, .v (.sl a2u a2n a2c)), (3, .loc 3 0), (4, .loc 4 0), (6, .loc 6 0), (8, .v (.ptr 0 0 0)), (33, .v (.sl a1_Lu a1_Ln a1_Lc)), (34, .v (i64 ((a1_Ln : Nat) : Int))), (35, .v (i64 (0)))], st := ⟨[(3, [i64 a0_Kind, .sl a0_Namesu a0_Namesn a0_Namesc, .sl a0_Lu a0_Ln a0_Lc, i64 a0_R]), (4, [i64 a1_N, .sl a1_Su a1_Sn a1_Sc, .sl a1_Lu a1_Ln a1_Lc]), (6, [i64 (0), .sl true 0 [], .sl true 0 []])], ⟨[(0, ⟨0, 1, [i64 a1_N, .sl x0_0 x0_1 x0_2, .sl true 0 []]⟩)], 1⟩⟩, nt := 59 }
  (contC cfg (cl n) f_value_with n asks_value_with (bodyOf Tryz.f31) [1, 1, 1, 0, 1, 0] [] (retK cfg Tryz.f31 Q))
@[irreducible] noncomputable def L_value_with_1 (n m : Nat) (a0_Kind : Int) (a0_Namesu : Bool) (a0_Namesn : Nat) (a0_Namesc : List PV) (a0_Lu : Bool) (a0_Ln : Nat) (a0_Lc : List PV) (a0_R : Int) (a1_N : Int) (a1_Su : Bool) (a1_Sn : Nat) (a1_Sc : List PV) (a1_Lu : Bool) (a1_Ln : Nat) (a1_Lc : List PV) (x1_0 : Bool) (x1_1 : Nat) (x1_2 : List PV) (x1_3 : Int) (x1_4 : List PV) (x1_5 : Nat) (x1_6 : Bool) (x1_7 : Nat) (x1_8 : List PV) (x1_9 : Nat) (Q : PV → Store → Prop) : Prop := Pvm.Ends cfg (cl n) f_value_with n (codeAt (bodyOf Tryz.f31) [1, 1, 1, 0, 1, 0]) m
  { regs := [(2, .v (.sl x1_0 x1_1 x1_2)), (3, .loc 3 0), (4, .loc 4 0), (6, .loc 6 0), (8, .v (.ptr 0 0 0)), (33, .v (.sl a1_Lu a1_Ln a1_Lc)), (34, .v (i64 ((a1_Ln : Nat) : Int))), (35, .v (i64 x1_3))], st := ⟨[(3, [i64 a0_Kind, .sl a0_Namesu a0_Namesn a0_Namesc, .sl a0_Lu a0_Ln a0_Lc, i64 a0_R]), (4, [i64 a1_N, .sl a1_Su a1_Sn a1_Sc, .sl a1_Lu a1_Ln a1_Lc]), (6, [i64 (0), .sl true 0 [], .sl true 0 []])], ⟨[(1, ⟨x1_5, 3, x1_4⟩), (0, ⟨0, 1, [i64 a1_N, .sl x1_6 x1_7 x1_8, .bsl 1 x1_5 0 x1_9]⟩)], 2⟩⟩, nt := 59 }
  (contC cfg (cl n) f_value_with n asks_value_with (bodyOf Tryz.f31) [1, 1, 1, 0, 1, 0] [] (retK cfg Tryz.f31 Q))
theorem vc_value_with (n : Nat) (a0_Kind : Int) (a0_Namesu : Bool) (a0_Namesn : Nat) (a0_Namesc : List PV) (a0_Lu : Bool) (a0_Ln : Nat) (a0_Lc : List PV) (a0_R : Int) (a1_N : Int) (a1_Su : Bool) (a1_Sn : Nat) (a1_Sc : List PV) (a1_Lu : Bool) (a1_Ln : Nat) (a1_Lc : List PV) (a2u : Bool) (a2n : Nat) (a2c : List PV) (Q : PV → Store → Prop)
  (h :
    br (decide (a0_Kind = (20)))
    (((0 : Int) ≤ (0) ∧ (0) < ((a2n : Nat) : Int) ∧ Int.toNat (0) * 1 < (a2c : List PV).length) ∧
      ∃ (v1 : Int), (ld prog t_int a2c 0 (i64 v1)) ∧
      ((0 : Int) ≤ (1) ∧ a2n = a2n ∧ a2n = a2n ∧ 1 ≤ a2n ∧ a2n ≤ a2n ∧ a2n ≤ a2n ∧ a2n * 1 = (a2c : List PV).length) ∧
      Q (.tup [.agg [i64 v1, .sl true 0 [], .sl true 0 []], .sl (a2u && ((a2n : Nat) == a2n)) (a2n - 1) ((List.drop (1 * 1) a2c).take ((a2n - 1) * 1))]) ⟨[], 0⟩)
    (br (decide (a0_Kind = (21)))
      (((0 : Int) ≤ (0) ∧ (0) < ((a2n : Nat) : Int) ∧ Int.toNat (0) * 1 < (a2c : List PV).length) ∧
        ∃ (v2 : Int), (ld prog t_int a2c 0 (i64 v2)) ∧
        ((0 : Int) ≤ (1) ∧ a2n = a2n ∧ a2n = a2n ∧ 1 ≤ a2n ∧ a2n ≤ a2n ∧ a2n ≤ a2n ∧ a2n * 1 = (a2c : List PV).length) ∧
        Q (.tup [.agg [i64 v2, .sl true 0 [], .sl true 0 []], .sl (a2u && ((a2n : Nat) == a2n)) (a2n - 1) ((List.drop (1 * 1) a2c).take ((a2n - 1) * 1))]) ⟨[], 0⟩)
      (∃ (v3 : Bool) (v4 : Nat) (v5 : List PV), (cl n f_slices_Clone_sl_int_int [.sl a1_Su a1_Sn a1_Sc] ⟨[], 0⟩ = some (.sl v3 v4 v5, ⟨[], 0⟩)) ∧
        L_value_with_0 n n a0_Kind a0_Namesu a0_Namesn a0_Namesc a0_Lu a0_Ln a0_Lc a0_R a1_N a1_Su a1_Sn a1_Sc a1_Lu a1_Ln a1_Lc a2u a2n a2c v3 v4 v5 Q))) :
  Ret cfg (n + 1) f_value_with [.agg [i64 a0_Kind, .sl a0_Namesu a0_Namesn a0_Namesc, .sl a0_Lu a0_Ln a0_Lc, i64 a0_R], .agg [i64 a1_N, .sl a1_Su a1_Sn a1_Sc, .sl a1_Lu a1_Ln a1_Lc], .sl a2u a2n a2c] ⟨[], 0⟩ Q :=
  vcRun_eq (fn := Tryz.f31) (asks := asks_value_with) (by kernel_rfl) (by kernel_rfl) (by kernel_rfl) (by kernel_rfl) (by kernel_rfl) h
theorem lp_value_with_0 (n m : Nat) (a0_Kind : Int) (a0_Namesu : Bool) (a0_Namesn : Nat) (a0_Namesc : List PV) (a0_Lu : Bool) (a0_Ln : Nat) (a0_Lc : List PV) (a0_R : Int) (a1_N : Int) (a1_Su : Bool) (a1_Sn : Nat) (a1_Sc : List PV) (a1_Lu : Bool) (a1_Ln : Nat) (a1_Lc : List PV) (a2u : Bool) (a2n : Nat) (a2c : List PV) (x0_0 : Bool) (x0_1 : Nat) (x0_2 : List PV) (Q : PV → Store → Prop)
  (h :
    br (decide ((0) < ((a1_Ln : Nat) : Int)))
    (((0 : Int) ≤ (0) ∧ (0) < ((a1_Ln : Nat) : Int) ∧ Int.toNat (0) * 3 < (a1_Lc : List PV).length) ∧
      ∃ (v1 : Int) (v2 : Bool) (v3 : Nat) (v4 : List PV) (v5 : Bool) (v6 : Nat) (v7 : List PV), (ld prog t_api_Val a1_Lc 0 (.agg [i64 v1, .sl v2 v3 v4, .sl v5 v6 v7])) ∧
      ∃ (v8 : Int) (v9 : Bool) (v10 : Nat) (v11 : List PV) (v12 : Bool) (v13 : Nat) (v14 : List PV) (v15 : Int), (cl n f_value_inner [.agg [i64 a0_Kind, .sl a0_Namesu a0_Namesn a0_Namesc, .sl a0_Lu a0_Ln a0_Lc, i64 a0_R], .agg [i64 a1_N, .sl a1_Su a1_Sn a1_Sc, .sl a1_Lu a1_Ln a1_Lc], i64 (0)] ⟨[(0, ⟨0, 1, [i64 a1_N, .sl x0_0 x0_1 x0_2, .sl true 0 []]⟩)], 1⟩ = some (.agg [i64 v8, .sl v9 v10 v11, .sl v12 v13 v14, i64 v15], ⟨[(0, ⟨0, 1, [i64 a1_N, .sl x0_0 x0_1 x0_2, .sl true 0 []]⟩)], 1⟩)) ∧
      ∃ (v16 : Int) (v17 : Bool) (v18 : Nat) (v19 : List PV) (v20 : Bool) (v21 : Nat) (v22 : List PV) (v23 : Bool) (v24 : Nat) (v25 : List PV), (cl n f_value_with [.agg [i64 v8, .sl v9 v10 v11, .sl v12 v13 v14, i64 v15], .agg [i64 v1, .sl v2 v3 v4, .sl v5 v6 v7], .sl a2u a2n a2c] ⟨[(0, ⟨0, 1, [i64 a1_N, .sl x0_0 x0_1 x0_2, .sl true 0 []]⟩)], 1⟩ = some (.tup [.agg [i64 v16, .sl v17 v18 v19, .sl v20 v21 v22], .sl v23 v24 v25], ⟨[(0, ⟨0, 1, [i64 a1_N, .sl x0_0 x0_1 x0_2, .sl true 0 []]⟩)], 1⟩)) ∧
      (([i64 v16, .sl v17 v18 v19, .sl v20 v21 v22] : List PV).length = 1 * 3 ∧ ([i64 v16, .sl v17 v18 v19, .sl v20 v21 v22] : List PV).all oneC = true ∧ true = true ∧ ([] : List PV).length = 0 * 3 ∧ ([] : List PV).all oneC = true ∧ (0 + 1) * 56 ≤ 140737488355328 ∧ 0 + 1 ≤ 140737488355328 ∧ (0 = 0 ∨ 0 < 1)) ∧
      L_value_with_1 n m a0_Kind a0_Namesu a0_Namesn a0_Namesc a0_Lu a0_Ln a0_Lc a0_R a1_N a1_Su a1_Sn a1_Sc a1_Lu a1_Ln a1_Lc v23 v24 v25 (1) [i64 v16, .sl v17 v18 v19, .sl v20 v21 v22] 0 x0_0 x0_1 x0_2 1 Q)
    (Q (.tup [.agg [i64 a1_N, .sl x0_0 x0_1 x0_2, .sl true 0 []], .sl a2u a2n a2c]) ⟨[(0, ⟨0, 1, [i64 a1_N, .sl x0_0 x0_1 x0_2, .sl true 0 []]⟩)], 1⟩)) :
  L_value_with_0 n (m + 1) a0_Kind a0_Namesu a0_Namesn a0_Namesc a0_Lu a0_Ln a0_Lc a0_R a1_N a1_Su a1_Sn a1_Sc a1_Lu a1_Ln a1_Lc a2u a2n a2c x0_0 x0_1 x0_2 Q := by
  unfold L_value_with_0
  exact Ends_eq (asks := asks_value_with) (by kernel_rfl) h
theorem lp_value_with_1 (n m : Nat) (a0_Kind : Int) (a0_Namesu : Bool) (a0_Namesn : Nat) (a0_Namesc : List PV) (a0_Lu : Bool) (a0_Ln : Nat) (a0_Lc : List PV) (a0_R : Int) (a1_N : Int) (a1_Su : Bool) (a1_Sn : Nat) (a1_Sc : List PV) (a1_Lu : Bool) (a1_Ln : Nat) (a1_Lc : List PV) (x1_0 : Bool) (x1_1 : Nat) (x1_2 : List PV) (x1_3 : Int) (x1_4 : List PV) (x1_5 : Nat) (x1_6 : Bool) (x1_7 : Nat) (x1_8 : List PV) (x1_9 : Nat) (Q : PV → Store → Prop)
  (h :
    br (decide (x1_3 < ((a1_Ln : Nat) : Int)))
    (((0 : Int) ≤ x1_3 ∧ x1_3 < ((a1_Ln : Nat) : Int) ∧ Int.toNat x1_3 * 3 < (a1_Lc : List PV).length) ∧
      ∃ (v1 : Int) (v2 : Bool) (v3 : Nat) (v4 : List PV) (v5 : Bool) (v6 : Nat) (v7 : List PV), (ld prog t_api_Val a1_Lc (Int.toNat x1_3 * 3) (.agg [i64 v1, .sl v2 v3 v4, .sl v5 v6 v7])) ∧
      ∃ (v8 : Int) (v9 : Bool) (v10 : Nat) (v11 : List PV) (v12 : Bool) (v13 : Nat) (v14 : List PV) (v15 : Int), (cl n f_value_inner [.agg [i64 a0_Kind, .sl a0_Namesu a0_Namesn a0_Namesc, .sl a0_Lu a0_Ln a0_Lc, i64 a0_R], .agg [i64 a1_N, .sl a1_Su a1_Sn a1_Sc, .sl a1_Lu a1_Ln a1_Lc], i64 x1_3] ⟨[(1, ⟨x1_5, 3, x1_4⟩), (0, ⟨0, 1, [i64 a1_N, .sl x1_6 x1_7 x1_8, .bsl 1 x1_5 0 x1_9]⟩)], 2⟩ = some (.agg [i64 v8, .sl v9 v10 v11, .sl v12 v13 v14, i64 v15], ⟨[(1, ⟨x1_5, 3, x1_4⟩), (0, ⟨0, 1, [i64 a1_N, .sl x1_6 x1_7 x1_8, .bsl 1 x1_5 0 x1_9]⟩)], 2⟩)) ∧
      ∃ (v16 : Int) (v17 : Bool) (v18 : Nat) (v19 : List PV) (v20 : Bool) (v21 : Nat) (v22 : List PV) (v23 : Bool) (v24 : Nat) (v25 : List PV), (cl n f_value_with [.agg [i64 v8, .sl v9 v10 v11, .sl v12 v13 v14, i64 v15], .agg [i64 v1, .sl v2 v3 v4, .sl v5 v6 v7], .sl x1_0 x1_1 x1_2] ⟨[(1, ⟨x1_5, 3, x1_4⟩), (0, ⟨0, 1, [i64 a1_N, .sl x1_6 x1_7 x1_8, .bsl 1 x1_5 0 x1_9]⟩)], 2⟩ = some (.tup [.agg [i64 v16, .sl v17 v18 v19, .sl v20 v21 v22], .sl v23 v24 v25], ⟨[(1, ⟨x1_5, 3, x1_4⟩), (0, ⟨0, 1, [i64 a1_N, .sl x1_6 x1_7 x1_8, .bsl 1 x1_5 0 x1_9]⟩)], 2⟩)) ∧
      (([i64 v16, .sl v17 v18 v19, .sl v20 v21 v22] : List PV).length = 1 * 3 ∧ ([i64 v16, .sl v17 v18 v19, .sl v20 v21 v22] : List PV).all oneC = true ∧ x1_5 = x1_5 ∧ 0 = 0 ∧ 3 = 3 ∧ x1_9 * 3 ≤ (x1_4 : List PV).length ∧ ((List.take (x1_9 * 3) x1_4) : List PV).all oneC = true ∧ (x1_9 + 1) * 56 ≤ 140737488355328 ∧ x1_9 + 1 ≤ 140737488355328) ∧
      L_value_with_1 n m a0_Kind a0_Namesu a0_Namesn a0_Namesc a0_Lu a0_Ln a0_Lc a0_R a1_N a1_Su a1_Sn a1_Sc a1_Lu a1_Ln a1_Lc v23 v24 v25 (IntKind.i64.wrap (x1_3 + (1))) ((List.take (x1_9 * 3) x1_4) ++ [i64 v16, .sl v17 v18 v19, .sl v20 v21 v22]) (x1_5 + 1) x1_6 x1_7 x1_8 (x1_9 + 1) Q)
    (Q (.tup [.agg [i64 a1_N, .sl x1_6 x1_7 x1_8, .bsl 1 x1_5 0 x1_9], .sl x1_0 x1_1 x1_2]) ⟨[(1, ⟨x1_5, 3, x1_4⟩), (0, ⟨0, 1, [i64 a1_N, .sl x1_6 x1_7 x1_8, .bsl 1 x1_5 0 x1_9]⟩)], 2⟩)) :
  L_value_with_1 n (m + 1) a0_Kind a0_Namesu a0_Namesn a0_Namesc a0_Lu a0_Ln a0_Lc a0_R a1_N a1_Su a1_Sn a1_Sc a1_Lu a1_Ln a1_Lc x1_0 x1_1 x1_2 x1_3 x1_4 x1_5 x1_6 x1_7 x1_8 x1_9 Q := by
  unfold L_value_with_1
  exact Ends_eq (asks := asks_value_with) (by kernel_rfl) h
/-! ### slices.Equal[[]int,int] -/
def asks_slices_Equal_sl_int_int : Asks := [(6002, .cond), (6003, .told (.sh (.one (.int .i64)))), (6006, .cond), (6007, .told (.sh (.one (.int .i64))))]
@[irreducible] noncomputable def L_slices_Equal_sl_int_int_0 (n m : Nat) (a0u : Bool) (a0n : Nat) (a0c : List PV) (a1u : Bool) (a1n : Nat) (a1c : List PV) (x0_0 : Int) (Q : PV → Store → Prop) : Prop := Pvm.Ends cfg (cl n) f_slices_Equal_sl_int_int n (codeAt (bodyOf Tryz.f32) [1, 1, 0, 1, 0]) m
  { regs := [(0, .v (.sl a0u a0n a0c)), (1, .v (.sl a1u a1n a1c)), (12, .v (i64 ((a0n : Nat) : Int))), (13, .v (i64 x0_0))], st := ⟨[], ⟨[], 0⟩⟩, nt := 26 }
  (contC cfg (cl n) f_slices_Equal_sl_int_int n asks_slices_Equal_sl_int_int (bodyOf Tryz.f32) [1, 1, 0, 1, 0] [] (retK cfg Tryz.f32 Q))
theorem vc_slices_Equal_sl_int_int (n : Nat) (a0u : Bool) (a0n : Nat) (a0c : List PV) (a1u : Bool) (a1n : Nat) (a1c : List PV) (Q : PV → Store → Prop)
  (h :
    br (!(decide (((a0n : Nat) : Int) = ((a1n : Nat) : Int))))
    (Q (.s (.bool false)) ⟨[], 0⟩)
    (L_slices_Equal_sl_int_int_0 n n a0u a0n a0c a1u a1n a1c (0) Q)) :
  Ret cfg (n + 1) f_slices_Equal_sl_int_int [.sl a0u a0n a0c, .sl a1u a1n a1c] ⟨[], 0⟩ Q :=
  vcRun_eq (fn := Tryz.f32) (asks := asks_slices_Equal_sl_int_int) (by kernel_rfl) (by kernel_rfl) (by kernel_rfl) (by kernel_rfl) (by kernel_rfl) h
theorem lp_slices_Equal_sl_int_int_0 (n m : Nat) (a0u : Bool) (a0n : Nat) (a0c : List PV) (a1u : Bool) (a1n : Nat) (a1c : List PV) (x0_0 : Int) (Q : PV → Store → Prop)
  (h :
    br (decide (x0_0 < ((a0n : Nat) : Int)))
    (((0 : Int) ≤ x0_0 ∧ x0_0 < ((a0n : Nat) : Int) ∧ Int.toNat x0_0 * 1 < (a0c : List PV).length) ∧
      ∃ (v1 : Int), (ld prog t_int a0c (Int.toNat x0_0 * 1) (i64 v1)) ∧
      ((0 : Int) ≤ x0_0 ∧ x0_0 < ((a1n : Nat) : Int) ∧ Int.toNat x0_0 * 1 < (a1c : List PV).length) ∧
      ∃ (v2 : Int), (ld prog t_int a1c (Int.toNat x0_0 * 1) (i64 v2)) ∧
      br (!(decide (v1 = v2)))
      (Q (.s (.bool false)) ⟨[], 0⟩)
      (L_slices_Equal_sl_int_int_0 n m a0u a0n a0c a1u a1n a1c (IntKind.i64.wrap (x0_0 + (1))) Q))
    (Q (.s (.bool true)) ⟨[], 0⟩)) :
  L_slices_Equal_sl_int_int_0 n (m + 1) a0u a0n a0c a1u a1n a1c x0_0 Q := by
  unfold L_slices_Equal_sl_int_int_0
  exact Ends_eq (asks := asks_slices_Equal_sl_int_int) (by kernel_rfl) h
/-! ### slices.EqualFunc[[]scarf/api.Val,[]scarf/api.Val,scarf/api.Val,scarf/api.Val] -/
def asks_slices_EqualFunc_sl_api_Val_sl_api_Val_api_Val_api_Val : Asks := [(5001, .cond), (5002, .told (.sh (.agg [.int .i64, .sl, .sl]))), (6002, .cond), (6003, .told (.sh (.agg [.int .i64, .sl, .sl]))), (7003, .told (.sh (.one (.bool))))]
@[irreducible] noncomputable def L_slices_EqualFunc_sl_api_Val_sl_api_Val_api_Val_api_Val_0 (n m : Nat) (a0u : Bool) (a0n : Nat) (a0c : List PV) (a1u : Bool) (a1n : Nat) (a1c : List PV) (x0_0 : Int) (Q : PV → Store → Prop) : Prop := Pvm.Ends cfg (cl n) f_slices_EqualFunc_sl_api_Val_sl_api_Val_api_Val_api_Val n (codeAt (bodyOf Tryz.f33) [1, 1, 0, 1, 0]) m
  { regs := [(1, .v (.sl a1u a1n a1c)), (2, .v (.fn (.func f_value_Same) [] [])), (15, .v (.sl a0u a0n a0c)), (16, .v (i64 ((a0n : Nat) : Int))), (17, .v (i64 x0_0))], st := ⟨[], ⟨[], 0⟩⟩, nt := 32 }
  (contC cfg (cl n) f_slices_EqualFunc_sl_api_Val_sl_api_Val_api_Val_api_Val n asks_slices_EqualFunc_sl_api_Val_sl_api_Val_api_Val_api_Val (bodyOf Tryz.f33) [1, 1, 0, 1, 0] [] (retK cfg Tryz.f33 Q))
theorem vc_slices_EqualFunc_sl_api_Val_sl_api_Val_api_Val_api_Val (n : Nat) (a0u : Bool) (a0n : Nat) (a0c : List PV) (a1u : Bool) (a1n : Nat) (a1c : List PV) (Q : PV → Store → Prop)
  (h :
    br (!(decide (((a0n : Nat) : Int) = ((a1n : Nat) : Int))))
    (Q (.s (.bool false)) ⟨[], 0⟩)
    (L_slices_EqualFunc_sl_api_Val_sl_api_Val_api_Val_api_Val_0 n n a0u a0n a0c a1u a1n a1c (0) Q)) :
  Ret cfg (n + 1) f_slices_EqualFunc_sl_api_Val_sl_api_Val_api_Val_api_Val [.sl a0u a0n a0c, .sl a1u a1n a1c, .fn (.func f_value_Same) [] []] ⟨[], 0⟩ Q :=
  vcRun_eq (fn := Tryz.f33) (asks := asks_slices_EqualFunc_sl_api_Val_sl_api_Val_api_Val_api_Val) (by kernel_rfl) (by kernel_rfl) (by kernel_rfl) (by kernel_rfl) (by kernel_rfl) h
theorem lp_slices_EqualFunc_sl_api_Val_sl_api_Val_api_Val_api_Val_0 (n m : Nat) (a0u : Bool) (a0n : Nat) (a0c : List PV) (a1u : Bool) (a1n : Nat) (a1c : List PV) (x0_0 : Int) (Q : PV → Store → Prop)
  (h :
    br (decide (x0_0 < ((a0n : Nat) : Int)))
    (((0 : Int) ≤ x0_0 ∧ x0_0 < ((a0n : Nat) : Int) ∧ Int.toNat x0_0 * 3 < (a0c : List PV).length) ∧
      ∃ (v1 : Int) (v2 : Bool) (v3 : Nat) (v4 : List PV) (v5 : Bool) (v6 : Nat) (v7 : List PV), (ld prog t_api_Val a0c (Int.toNat x0_0 * 3) (.agg [i64 v1, .sl v2 v3 v4, .sl v5 v6 v7])) ∧
      ((0 : Int) ≤ x0_0 ∧ x0_0 < ((a1n : Nat) : Int) ∧ Int.toNat x0_0 * 3 < (a1c : List PV).length) ∧
      ∃ (v8 : Int) (v9 : Bool) (v10 : Nat) (v11 : List PV) (v12 : Bool) (v13 : Nat) (v14 : List PV), (ld prog t_api_Val a1c (Int.toNat x0_0 * 3) (.agg [i64 v8, .sl v9 v10 v11, .sl v12 v13 v14])) ∧
      ∃ (v15 : Bool), (cl n f_value_Same [.agg [i64 v1, .sl v2 v3 v4, .sl v5 v6 v7], .agg [i64 v8, .sl v9 v10 v11, .sl v12 v13 v14]] ⟨[], 0⟩ = some (.s (.bool v15), ⟨[], 0⟩)) ∧
      br (!v15)
      (Q (.s (.bool false)) ⟨[], 0⟩)
      (L_slices_EqualFunc_sl_api_Val_sl_api_Val_api_Val_api_Val_0 n m a0u a0n a0c a1u a1n a1c (IntKind.i64.wrap (x0_0 + (1))) Q))
    (Q (.s (.bool true)) ⟨[], 0⟩)) :
  L_slices_EqualFunc_sl_api_Val_sl_api_Val_api_Val_api_Val_0 n (m + 1) a0u a0n a0c a1u a1n a1c x0_0 Q := by
  unfold L_slices_EqualFunc_sl_api_Val_sl_api_Val_api_Val_api_Val_0
  exact Ends_eq (asks := asks_slices_EqualFunc_sl_api_Val_sl_api_Val_api_Val_api_Val) (by kernel_rfl) h
/-! ### scarf/ctype.Check -/
def asks_ctype_Check : Asks := [(1001, .told (.sh (.one (.int .i64))))]
theorem vc_ctype_Check (n : Nat) (a0_Kind : Int) (a0_Namesu : Bool) (a0_Namesn : Nat) (a0_Namesc : List PV) (a0_Lu : Bool) (a0_Ln : Nat) (a0_Lc : List PV) (a0_R : Int) (Q : PV → Store → Prop)
  (h :
    ∃ (v1 : Int), (cl n f_ctype_within [.agg [i64 a0_Kind, .sl a0_Namesu a0_Namesn a0_Namesc, .sl a0_Lu a0_Ln a0_Lc, i64 a0_R], i64 (1)] ⟨[], 0⟩ = some (i64 v1, ⟨[], 0⟩)) ∧
    br (decide (v1 = (0)))
    (Q (i64 (1)) ⟨[], 0⟩)
    (Q (i64 (0)) ⟨[], 0⟩)) :
  Ret cfg (n + 1) f_ctype_Check [.agg [i64 a0_Kind, .sl a0_Namesu a0_Namesn a0_Namesc, .sl a0_Lu a0_Ln a0_Lc, i64 a0_R]] ⟨[], 0⟩ Q :=
  vcRun_eq (fn := Tryz.f34) (asks := asks_ctype_Check) (by kernel_rfl) (by kernel_rfl) (by kernel_rfl) (by kernel_rfl) (by kernel_rfl) h
/-! ### scarf/value.parts -/
def asks_value_parts : Asks := [(1002, .told (.tup [.one (.int .i64), .one (.int .i64), .one (.bool)])), (8002, .told (.sh (.one (.bool)))), (12018, .told (.sh (.one (.bool)))), (16009, .cond), (22005, .told (.sh (.one (.sl)))), (22008, .told (.sh (.one (.int .i64)))), (23001, .told (.sh (.agg [.int .i64, .sl, .sl, .int .i64]))), (27004, .told (.sh (.one (.int .i64)))), (30004, .cond), (30006, .told (.sh (.one (.int .i64)))), (36007, .cond), (36010, .told (.sh (.one (.int .i64))))]
theorem vc_value_parts (n : Nat) (a0_Kind : Int) (a0_Namesu : Bool) (a0_Namesn : Nat) (a0_Namesc : List PV) (a0_Lu : Bool) (a0_Ln : Nat) (a0_Lc : List PV) (a0_R : Int) (a1_N : Int) (a1_Su : Bool) (a1_Sn : Nat) (a1_Sc : List PV) (a1_Lu : Bool) (a1_Ln : Nat) (a1_Lc : List PV) (Q : PV → Store → Prop)
  (h :
    ∃ (v1 : Int) (v2 : Int) (v3 : Bool), (cl n f_value_span [i64 a0_Kind] ⟨[], 0⟩ = some (.tup [i64 v1, i64 v2, .s (.bool v3)], ⟨[], 0⟩)) ∧
    br v3
    (br (decide (a1_N < v1))
      (Q (i64 (0)) ⟨[], 0⟩)
      (br (decide (a1_N > v2))
        (Q (i64 (0)) ⟨[], 0⟩)
        (br (decide ((IntKind.i64.wrap (((a1_Sn : Nat) : Int) + ((a1_Ln : Nat) : Int))) > (0)))
          (Q (i64 (0)) ⟨[], 0⟩)
          (Q (i64 (1)) ⟨[], 0⟩))))
    (br (decide (a0_Kind = (10)))
      (∃ (v4 : Bool), (cl n f_utf_Scalar [i64 a1_N] ⟨[], 0⟩ = some (.s (.bool v4), ⟨[], 0⟩)) ∧
        br (!v4)
        (Q (i64 (0)) ⟨[], 0⟩)
        (br (decide ((IntKind.i64.wrap (((a1_Sn : Nat) : Int) + ((a1_Ln : Nat) : Int))) > (0)))
          (Q (i64 (0)) ⟨[], 0⟩)
          (Q (i64 (1)) ⟨[], 0⟩)))
      (br (decide (a0_Kind = (11)))
        (br (!(decide (a1_N = (0))))
          (Q (i64 (0)) ⟨[], 0⟩)
          (br (decide (((a1_Ln : Nat) : Int) > (0)))
            (Q (i64 (0)) ⟨[], 0⟩)
            (br (decide (((a1_Sn : Nat) : Int) > (1000)))
              (Q (i64 (0)) ⟨[], 0⟩)
              (∃ (v5 : Bool), (cl n f_slices_ContainsFunc_sl_int_int [.sl a1_Su a1_Sn a1_Sc, .fn (.func f_value_parts_1) [] []] ⟨[], 0⟩ = some (.s (.bool v5), ⟨[], 0⟩)) ∧
                br v5
                (Q (i64 (0)) ⟨[], 0⟩)
                (Q (i64 (IntKind.i64.wrap ((1) + ((a1_Sn : Nat) : Int)))) ⟨[], 0⟩)))))
        (br (decide (a0_Kind = (19)))
          (br (decide (a1_N < (0)))
            (Q (i64 (0)) ⟨[], 0⟩)
            (((0 : Int) ≤ ((a0_Namesn : Nat) : Int)) ∧
              br (decide (a1_N ≥ (IntKind.i64.wrap ((1) * 2 ^ (min (Int.toNat ((a0_Namesn : Nat) : Int)) 64)))))
              (Q (i64 (0)) ⟨[], 0⟩)
              (br (decide ((IntKind.i64.wrap (((a1_Sn : Nat) : Int) + ((a1_Ln : Nat) : Int))) > (0)))
                (Q (i64 (0)) ⟨[], 0⟩)
                (Q (i64 (1)) ⟨[], 0⟩))))
          (br (decide (a0_Kind = (12)))
            (br (!(decide (a1_N = (0))))
              (Q (i64 (0)) ⟨[], 0⟩)
              (br (decide (((a1_Sn : Nat) : Int) > (0)))
                (Q (i64 (0)) ⟨[], 0⟩)
                (br (decide (((a1_Ln : Nat) : Int) > (1000)))
                  (Q (i64 (0)) ⟨[], 0⟩)
                  (∃ (v6 : Bool) (v7 : Nat) (v8 : List PV), (cl n f_slices_Repeat_sl_api_Type_api_Type [.sl a0_Lu a0_Ln a0_Lc, i64 ((a1_Ln : Nat) : Int)] ⟨[], 0⟩ = some (.sl v6 v7 v8, ⟨[], 0⟩)) ∧
                    ∃ (v9 : Int), (cl n f_value_all [.sl v6 v7 v8, .sl a1_Lu a1_Ln a1_Lc] ⟨[], 0⟩ = some (i64 v9, ⟨[], 0⟩)) ∧
                    Q (i64 v9) ⟨[], 0⟩))))
            (∃ (v10 : Int) (v11 : Bool) (v12 : Nat) (v13 : List PV) (v14 : Bool) (v15 : Nat) (v16 : List PV) (v17 : Int), (cl n f_ctype_Plain [.agg [i64 a0_Kind, .sl a0_Namesu a0_Namesn a0_Namesc, .sl a0_Lu a0_Ln a0_Lc, i64 a0_R]] ⟨[], 0⟩ = some (.agg [i64 v10, .sl v11 v12 v13, .sl v14 v15 v16, i64 v17], ⟨[], 0⟩)) ∧
              br (decide (v10 = (13)))
              (br (!(decide (a1_N = (0))))
                (Q (i64 (0)) ⟨[], 0⟩)
                (br (decide (((a1_Sn : Nat) : Int) > (0)))
                  (Q (i64 (0)) ⟨[], 0⟩)
                  (br (!(decide (((a1_Ln : Nat) : Int) = ((v15 : Nat) : Int))))
                    (Q (i64 (0)) ⟨[], 0⟩)
                    (∃ (v18 : Int), (cl n f_value_all [.sl v14 v15 v16, .sl a1_Lu a1_Ln a1_Lc] ⟨[], 0⟩ = some (i64 v18, ⟨[], 0⟩)) ∧
                      Q (i64 v18) ⟨[], 0⟩))))
              (br (decide (a1_N < (0)))
                (Q (i64 (0)) ⟨[], 0⟩)
                (br (decide (a1_N ≥ ((v15 : Nat) : Int)))
                  (Q (i64 (0)) ⟨[], 0⟩)
                  (br (decide (((a1_Sn : Nat) : Int) > (0)))
                    (Q (i64 (0)) ⟨[], 0⟩)
                    (((0 : Int) ≤ a1_N ∧ a1_N < ((v15 : Nat) : Int) ∧ Int.toNat a1_N * 4 < (v16 : List PV).length) ∧
                      ∃ (v19 : Int), (ld prog t_int v16 ((Int.toNat a1_N * 4) + 0) (i64 v19)) ∧
                      br (decide (v19 = (0)))
                      (br (decide (((a1_Ln : Nat) : Int) > (0)))
                        (Q (i64 (0)) ⟨[], 0⟩)
                        (Q (i64 (1)) ⟨[], 0⟩))
                      (br (!(decide (((a1_Ln : Nat) : Int) = (1))))
                        (Q (i64 (0)) ⟨[], 0⟩)
                        (((0 : Int) ≤ a1_N ∧ (0 : Int) ≤ (IntKind.i64.wrap (a1_N + (1))) ∧ v15 = v15 ∧ (Int.toNat a1_N) ≤ (Int.toNat (IntKind.i64.wrap (a1_N + (1)))) ∧ (Int.toNat (IntKind.i64.wrap (a1_N + (1)))) ≤ v15 ∧ v15 ≤ v15 ∧ v15 * 4 = (v16 : List PV).length) ∧
                          ∃ (v20 : Int), (cl n f_value_all [.sl (v14 && (((Int.toNat (IntKind.i64.wrap (a1_N + (1)))) : Nat) == v15)) ((Int.toNat (IntKind.i64.wrap (a1_N + (1)))) - (Int.toNat a1_N)) ((List.drop ((Int.toNat a1_N) * 4) v16).take (((Int.toNat (IntKind.i64.wrap (a1_N + (1)))) - (Int.toNat a1_N)) * 4)), .sl a1_Lu a1_Ln a1_Lc] ⟨[], 0⟩ = some (i64 v20, ⟨[], 0⟩)) ∧
                          Q (i64 v20) ⟨[], 0⟩)))))))))))) :
  Ret cfg (n + 1) f_value_parts [.agg [i64 a0_Kind, .sl a0_Namesu a0_Namesn a0_Namesc, .sl a0_Lu a0_Ln a0_Lc, i64 a0_R], .agg [i64 a1_N, .sl a1_Su a1_Sn a1_Sc, .sl a1_Lu a1_Ln a1_Lc]] ⟨[], 0⟩ Q :=
  vcRun_eq (fn := Tryz.f35) (asks := asks_value_parts) (by kernel_rfl) (by kernel_rfl) (by kernel_rfl) (by kernel_rfl) (by kernel_rfl) h
/-! ### scarf/ctype.distinct -/
def asks_ctype_distinct : Asks := [(3001, .cond), (3002, .told (.sh (.one (.str)))), (4001, .told (.sh (.one (.bool)))), (4006, .cond), (4008, .told (.sh (.one (.bool))))]
@[irreducible] noncomputable def L_ctype_distinct_0 (n m : Nat) (a0u : Bool) (a0n : Nat) (a0c : List PV) (x0_0 : Int) (Q : PV → Store → Prop) : Prop := Pvm.Ends cfg (cl n) f_ctype_distinct n (codeAt (bodyOf Tryz.f37) [1, 0, 1, 0]) m
  { regs := [(0, .v (.sl a0u a0n a0c)), (5, .v (.sl a0u a0n a0c)), (6, .v (i64 ((a0n : Nat) : Int))), (7, .v (i64 x0_0))], st := ⟨[], ⟨[], 0⟩⟩, nt := 31 }
  (contC cfg (cl n) f_ctype_distinct n asks_ctype_distinct (bodyOf Tryz.f37) [1, 0, 1, 0] [] (retK cfg Tryz.f37 Q))
theorem vc_ctype_distinct (n : Nat) (a0u : Bool) (a0n : Nat) (a0c : List PV) (Q : PV → Store → Prop)
  (h :
    L_ctype_distinct_0 n n a0u a0n a0c (0) Q) :
  Ret cfg (n + 1) f_ctype_distinct [.sl a0u a0n a0c] ⟨[], 0⟩ Q :=
  vcRun_eq (fn := Tryz.f37) (asks := asks_ctype_distinct) (by kernel_rfl) (by kernel_rfl) (by kernel_rfl) (by kernel_rfl) (by kernel_rfl) h
theorem lp_ctype_distinct_0 (n m : Nat) (a0u : Bool) (a0n : Nat) (a0c : List PV) (x0_0 : Int) (Q : PV → Store → Prop)
  (h :
    br (decide (x0_0 < ((a0n : Nat) : Int)))
    (((0 : Int) ≤ x0_0 ∧ x0_0 < ((a0n : Nat) : Int) ∧ Int.toNat x0_0 * 1 < (a0c : List PV).length) ∧
      ∃ (v1 : ByteArray), (ld prog t_string a0c (Int.toNat x0_0 * 1) (.s (.string v1))) ∧
      ∃ (v2 : Bool), (cl n f_lex_Name [.s (.string v1)] ⟨[], 0⟩ = some (.s (.bool v2), ⟨[], 0⟩)) ∧
      br (!v2)
      (Q (.s (.bool false)) ⟨[], 0⟩)
      ((0 = 0 ∧ (0 : Int) ≤ x0_0 ∧ a0n = a0n ∧ 0 ≤ (Int.toNat x0_0) ∧ (Int.toNat x0_0) ≤ a0n ∧ a0n ≤ a0n ∧ a0n * 1 = (a0c : List PV).length) ∧
        ∃ (v3 : Bool), (cl n f_slices_Contains_sl_string_string [.sl (a0u && (((Int.toNat x0_0) : Nat) == a0n)) ((Int.toNat x0_0) - 0) ((List.drop (0 * 1) a0c).take (((Int.toNat x0_0) - 0) * 1)), .s (.string v1)] ⟨[], 0⟩ = some (.s (.bool v3), ⟨[], 0⟩)) ∧
        br v3
        (Q (.s (.bool false)) ⟨[], 0⟩)
        (L_ctype_distinct_0 n m a0u a0n a0c (IntKind.i64.wrap (x0_0 + (1))) Q)))
    (br (decide (((a0n : Nat) : Int) > (0)))
      (Q (.s (.bool (decide (((a0n : Nat) : Int) ≤ (64))))) ⟨[], 0⟩)
      (Q (.s (.bool false)) ⟨[], 0⟩))) :
  L_ctype_distinct_0 n (m + 1) a0u a0n a0c x0_0 Q := by
  unfold L_ctype_distinct_0
  exact Ends_eq (asks := asks_ctype_distinct) (by kernel_rfl) h
/-! ### scarf/ctype.none -/
def asks_ctype_none : Asks := []
theorem vc_ctype_none (n : Nat) (a0_Kind : Int) (a0_Namesu : Bool) (a0_Namesn : Nat) (a0_Namesc : List PV) (a0_Lu : Bool) (a0_Ln : Nat) (a0_Lc : List PV) (a0_R : Int) (Q : PV → Store → Prop)
  (h :
    br (decide (a0_Kind = (0)))
    (br (decide (a0_R = (0)))
      (Q (.s (.bool (decide ((IntKind.i64.wrap (((a0_Namesn : Nat) : Int) + ((a0_Ln : Nat) : Int))) = (0))))) ⟨[], 0⟩)
      (Q (.s (.bool false)) ⟨[], 0⟩))
    (Q (.s (.bool false)) ⟨[], 0⟩)) :
  Ret cfg (n + 1) f_ctype_none [.agg [i64 a0_Kind, .sl a0_Namesu a0_Namesn a0_Namesc, .sl a0_Lu a0_Ln a0_Lc, i64 a0_R]] ⟨[], 0⟩ Q :=
  vcRun_eq (fn := Tryz.f38) (asks := asks_ctype_none) (by kernel_rfl) (by kernel_rfl) (by kernel_rfl) (by kernel_rfl) (by kernel_rfl) h
/-! ### scarf/scarfref13.names -/
def asks_scarfref13_names : Asks := [(4002, .cond), (4003, .told (.sh (.one (.str)))), (4004, .told (.sh (.one (.bool)))), (9002, .cond), (9003, .told (.sh (.one (.str)))), (9006, .cond), (9007, .told (.sh (.one (.str))))]
@[irreducible] noncomputable def L_scarfref13_names_0 (n m : Nat) (a0u : Bool) (a0n : Nat) (a0c : List PV) (a1 : Int) (x0_0 : Int) (x0_1 : RV) (Q : PV → Store → Prop) : Prop := Pvm.Ends cfg (cl n) f_scarfref13_names n (codeAt (bodyOf Tryz.f39) [1, 0, 1, 0]) m
  { regs := [(0, .v (.sl a0u a0n a0c)), (1, .v (i64 a1)), (5, .v (i64 x0_0)), (6, x0_1)], st := ⟨[], ⟨[], 0⟩⟩, nt := 42 }
  (contC cfg (cl n) f_scarfref13_names n asks_scarfref13_names (bodyOf Tryz.f39) [1, 0, 1, 0] [] (retK cfg Tryz.f39 Q))
@[irreducible] noncomputable def L_scarfref13_names_1 (n m m0 : Nat) (a0u : Bool) (a0n : Nat) (a0c : List PV) (a1 : Int) (x1_0 : Int) (x1_1 : Int) (Q : PV → Store → Prop) : Prop := Pvm.Ends cfg (cl n) f_scarfref13_names n (codeAt (bodyOf Tryz.f39) [1, 0, 1, 0, 0, 1, 0, 0, 1, 1, 0]) m
  { regs := [(0, .v (.sl a0u a0n a0c)), (1, .v (i64 a1)), (5, .v (i64 x1_0)), (6, .v (i64 x1_1))], st := ⟨[], ⟨[], 0⟩⟩, nt := 42 }
  (contC cfg (cl n) f_scarfref13_names n asks_scarfref13_names (bodyOf Tryz.f39) [1, 0, 1, 0, 0, 1, 0, 0, 1, 1, 0] [m0] (retK cfg Tryz.f39 Q))
theorem vc_scarfref13_names (n : Nat) (a0u : Bool) (a0n : Nat) (a0c : List PV) (a1 : Int) (Q : PV → Store → Prop)
  (h :
    L_scarfref13_names_0 n n a0u a0n a0c a1 (0) (.v (.any)) Q) :
  Ret cfg (n + 1) f_scarfref13_names [.sl a0u a0n a0c, i64 a1] ⟨[], 0⟩ Q :=
  vcRun_eq (fn := Tryz.f39) (asks := asks_scarfref13_names) (by kernel_rfl) (by kernel_rfl) (by kernel_rfl) (by kernel_rfl) (by kernel_rfl) h
theorem lp_scarfref13_names_0 (n m : Nat) (a0u : Bool) (a0n : Nat) (a0c : List PV) (a1 : Int) (x0_0 : Int) (x0_1 : RV) (Q : PV → Store → Prop)
  (h :
    br (decide (x0_0 < ((a0n : Nat) : Int)))
    (((0 : Int) ≤ x0_0 ∧ x0_0 < ((a0n : Nat) : Int) ∧ Int.toNat x0_0 * 1 < (a0c : List PV).length) ∧
      ∃ (v1 : ByteArray), (ld prog t_string a0c (Int.toNat x0_0 * 1) (.s (.string v1))) ∧
      ∃ (v2 : Bool), (cl n f_scarfref10_Name [.s (.string v1)] ⟨[], 0⟩ = some (.s (.bool v2), ⟨[], 0⟩)) ∧
      br (!v2)
      (Q (.s (.bool false)) ⟨[], 0⟩)
      (L_scarfref13_names_1 n n m a0u a0n a0c a1 x0_0 (0) Q))
    (br (decide (((a0n : Nat) : Int) ≥ (1)))
      (Q (.s (.bool (decide (((a0n : Nat) : Int) ≤ a1)))) ⟨[], 0⟩)
      (Q (.s (.bool false)) ⟨[], 0⟩))) :
  L_scarfref13_names_0 n (m + 1) a0u a0n a0c a1 x0_0 x0_1 Q := by
  unfold L_scarfref13_names_0
  exact Ends_eq (asks := asks_scarfref13_names) (by kernel_rfl) h
theorem lp_scarfref13_names_1 (n m m0 : Nat) (a0u : Bool) (a0n : Nat) (a0c : List PV) (a1 : Int) (x1_0 : Int) (x1_1 : Int) (Q : PV → Store → Prop)
  (h :
    br (decide (x1_1 < x1_0))
    (((0 : Int) ≤ x1_1 ∧ x1_1 < ((a0n : Nat) : Int) ∧ Int.toNat x1_1 * 1 < (a0c : List PV).length) ∧
      ∃ (v1 : ByteArray), (ld prog t_string a0c (Int.toNat x1_1 * 1) (.s (.string v1))) ∧
      ((0 : Int) ≤ x1_0 ∧ x1_0 < ((a0n : Nat) : Int) ∧ Int.toNat x1_0 * 1 < (a0c : List PV).length) ∧
      ∃ (v2 : ByteArray), (ld prog t_string a0c (Int.toNat x1_0 * 1) (.s (.string v2))) ∧
      br (v1.toList == v2.toList)
      (Q (.s (.bool false)) ⟨[], 0⟩)
      (L_scarfref13_names_1 n m m0 a0u a0n a0c a1 x1_0 (IntKind.i64.wrap (x1_1 + (1))) Q))
    (L_scarfref13_names_0 n m0 a0u a0n a0c a1 (IntKind.i64.wrap (x1_0 + (1))) (.v (i64 x1_1)) Q)) :
  L_scarfref13_names_1 n (m + 1) m0 a0u a0n a0c a1 x1_0 x1_1 Q := by
  unfold L_scarfref13_names_1
  exact Ends_eq (asks := asks_scarfref13_names) (by kernel_rfl) h
/-! ### scarf/scarfref11.None -/
def asks_scarfref11_None : Asks := []
theorem vc_scarfref11_None (n : Nat) (a0_Kind : Int) (a0_Namesu : Bool) (a0_Namesn : Nat) (a0_Namesc : List PV) (a0_Lu : Bool) (a0_Ln : Nat) (a0_Lc : List PV) (a0_R : Int) (Q : PV → Store → Prop)
  (h :
    br (decide (a0_Kind = (0)))
    (br (decide (a0_R = (0)))
      (br (decide (((a0_Namesn : Nat) : Int) = (0)))
        (Q (.s (.bool (decide (((a0_Ln : Nat) : Int) = (0))))) ⟨[], 0⟩)
        (Q (.s (.bool false)) ⟨[], 0⟩))
      (Q (.s (.bool false)) ⟨[], 0⟩))
    (Q (.s (.bool false)) ⟨[], 0⟩)) :
  Ret cfg (n + 1) f_scarfref11_None [.agg [i64 a0_Kind, .sl a0_Namesu a0_Namesn a0_Namesc, .sl a0_Lu a0_Ln a0_Lc, i64 a0_R]] ⟨[], 0⟩ Q :=
  vcRun_eq (fn := Tryz.f40) (asks := asks_scarfref11_None) (by kernel_rfl) (by kernel_rfl) (by kernel_rfl) (by kernel_rfl) (by kernel_rfl) h
/-! ### scarf/value.inner -/
def asks_value_inner : Asks := [(1001, .told (.sh (.agg [.int .i64, .sl, .sl, .int .i64]))), (3003, .cond), (3004, .told (.sh (.agg [.int .i64, .sl, .sl, .int .i64]))), (5004, .cond), (5005, .told (.sh (.agg [.int .i64, .sl, .sl, .int .i64]))), (7002, .cond), (7003, .told (.sh (.agg [.int .i64, .sl, .sl, .int .i64])))]
theorem vc_value_inner (n : Nat) (a0_Kind : Int) (a0_Namesu : Bool) (a0_Namesn : Nat) (a0_Namesc : List PV) (a0_Lu : Bool) (a0_Ln : Nat) (a0_Lc : List PV) (a0_R : Int) (a1_N : Int) (a1_Su : Bool) (a1_Sn : Nat) (a1_Sc : List PV) (a1_Lu : Bool) (a1_Ln : Nat) (a1_Lc : List PV) (a2 : Int) (Q : PV → Store → Prop)
  (h :
    ∃ (v1 : Int) (v2 : Bool) (v3 : Nat) (v4 : List PV) (v5 : Bool) (v6 : Nat) (v7 : List PV) (v8 : Int), (cl n f_ctype_Plain [.agg [i64 a0_Kind, .sl a0_Namesu a0_Namesn a0_Namesc, .sl a0_Lu a0_Ln a0_Lc, i64 a0_R]] ⟨[], 0⟩ = some (.agg [i64 v1, .sl v2 v3 v4, .sl v5 v6 v7, i64 v8], ⟨[], 0⟩)) ∧
    br (decide (v1 = (15)))
    (((0 : Int) ≤ a1_N ∧ a1_N < ((v6 : Nat) : Int) ∧ Int.toNat a1_N * 4 < (v7 : List PV).length) ∧
      ∃ (v9 : Int) (v10 : Bool) (v11 : Nat) (v12 : List PV) (v13 : Bool) (v14 : Nat) (v15 : List PV) (v16 : Int), (ld prog t_api_Type v7 (Int.toNat a1_N * 4) (.agg [i64 v9, .sl v10 v11 v12, .sl v13 v14 v15, i64 v16])) ∧
      Q (.agg [i64 v9, .sl v10 v11 v12, .sl v13 v14 v15, i64 v16]) ⟨[], 0⟩)
    (br (decide (v1 = (12)))
      (((0 : Int) ≤ (0) ∧ (0) < ((v6 : Nat) : Int) ∧ Int.toNat (0) * 4 < (v7 : List PV).length) ∧
        ∃ (v17 : Int) (v18 : Bool) (v19 : Nat) (v20 : List PV) (v21 : Bool) (v22 : Nat) (v23 : List PV) (v24 : Int), (ld prog t_api_Type v7 0 (.agg [i64 v17, .sl v18 v19 v20, .sl v21 v22 v23, i64 v24])) ∧
        Q (.agg [i64 v17, .sl v18 v19 v20, .sl v21 v22 v23, i64 v24]) ⟨[], 0⟩)
      (((0 : Int) ≤ a2 ∧ a2 < ((v6 : Nat) : Int) ∧ Int.toNat a2 * 4 < (v7 : List PV).length) ∧
        ∃ (v25 : Int) (v26 : Bool) (v27 : Nat) (v28 : List PV) (v29 : Bool) (v30 : Nat) (v31 : List PV) (v32 : Int), (ld prog t_api_Type v7 (Int.toNat a2 * 4) (.agg [i64 v25, .sl v26 v27 v28, .sl v29 v30 v31, i64 v32])) ∧
        Q (.agg [i64 v25, .sl v26 v27 v28, .sl v29 v30 v31, i64 v32]) ⟨[], 0⟩))) :
  Ret cfg (n + 1) f_value_inner [.agg [i64 a0_Kind, .sl a0_Namesu a0_Namesn a0_Namesc, .sl a0_Lu a0_Ln a0_Lc, i64 a0_R], .agg [i64 a1_N, .sl a1_Su a1_Sn a1_Sc, .sl a1_Lu a1_Ln a1_Lc], i64 a2] ⟨[], 0⟩ Q :=
  vcRun_eq (fn := Tryz.f41) (asks := asks_value_inner) (by kernel_rfl) (by kernel_rfl) (by kernel_rfl) (by kernel_rfl) (by kernel_rfl) h
/-! ### scarf/scarfref13.deep -/
def asks_scarfref13_deep : Asks := [(1004, .told (.sh (.one (.bool)))), (6012, .cond), (6013, .told (.sh (.agg [.int .i64, .sl, .sl, .int .i64]))), (6014, .told (.sh (.one (.bool)))), (7003, .cond), (7004, .told (.sh (.agg [.int .i64, .sl, .sl, .int .i64]))), (7007, .told (.sh (.one (.bool))))]
@[irreducible] noncomputable def L_scarfref13_deep_0 (n m : Nat) (a0_Kind : Int) (a0_Namesu : Bool) (a0_Namesn : Nat) (a0_Namesc : List PV) (a0_Lu : Bool) (a0_Ln : Nat) (a0_Lc : List PV) (a0_R : Int) (a1 : Int) (x0_0 : Int) (Q : PV → Store → Prop) : Prop := Pvm.Ends cfg (cl n) f_scarfref13_deep n (codeAt (bodyOf Tryz.f42) [1, 1, 0, 1, 0]) m
  { regs := [(1, .v (i64 a1)), (2, .loc 2 0), (5, .v (i64 x0_0))], st := ⟨[(2, [i64 a0_Kind, .sl a0_Namesu a0_Namesn a0_Namesc, .sl a0_Lu a0_Ln a0_Lc, i64 a0_R])], ⟨[], 0⟩⟩, nt := 45 }
  (contC cfg (cl n) f_scarfref13_deep n asks_scarfref13_deep (bodyOf Tryz.f42) [1, 1, 0, 1, 0] [] (retK cfg Tryz.f42 Q))
theorem vc_scarfref13_deep (n : Nat) (a0_Kind : Int) (a0_Namesu : Bool) (a0_Namesn : Nat) (a0_Namesc : List PV) (a0_Lu : Bool) (a0_Ln : Nat) (a0_Lc : List PV) (a0_R : Int) (a1 : Int) (Q : PV → Store → Prop)
  (h :
    br (decide (a1 ≥ (16)))
    (Q (.s (.bool false)) ⟨[], 0⟩)
    (∃ (v1 : Bool), (cl n f_scarfref13_own [.agg [i64 a0_Kind, .sl a0_Namesu a0_Namesn a0_Namesc, .sl a0_Lu a0_Ln a0_Lc, i64 a0_R]] ⟨[], 0⟩ = some (.s (.bool v1), ⟨[], 0⟩)) ∧
      br (!v1)
      (Q (.s (.bool false)) ⟨[], 0⟩)
      (L_scarfref13_deep_0 n n a0_Kind a0_Namesu a0_Namesn a0_Namesc a0_Lu a0_Ln a0_Lc a0_R a1 (0) Q))) :
  Ret cfg (n + 1) f_scarfref13_deep [.agg [i64 a0_Kind, .sl a0_Namesu a0_Namesn a0_Namesc, .sl a0_Lu a0_Ln a0_Lc, i64 a0_R], i64 a1] ⟨[], 0⟩ Q :=
  vcRun_eq (fn := Tryz.f42) (asks := asks_scarfref13_deep) (by kernel_rfl) (by kernel_rfl) (by kernel_rfl) (by kernel_rfl) (by kernel_rfl) h
theorem lp_scarfref13_deep_0 (n m : Nat) (a0_Kind : Int) (a0_Namesu : Bool) (a0_Namesn : Nat) (a0_Namesc : List PV) (a0_Lu : Bool) (a0_Ln : Nat) (a0_Lc : List PV) (a0_R : Int) (a1 : Int) (x0_0 : Int) (Q : PV → Store → Prop)
  (h :
    br (decide (x0_0 < ((a0_Ln : Nat) : Int)))
    (br (decide (a0_Kind = (15)))
      (((0 : Int) ≤ x0_0 ∧ x0_0 < ((a0_Ln : Nat) : Int) ∧ Int.toNat x0_0 * 4 < (a0_Lc : List PV).length) ∧
        ∃ (v1 : Int) (v2 : Bool) (v3 : Nat) (v4 : List PV) (v5 : Bool) (v6 : Nat) (v7 : List PV) (v8 : Int), (ld prog t_api_Type a0_Lc (Int.toNat x0_0 * 4) (.agg [i64 v1, .sl v2 v3 v4, .sl v5 v6 v7, i64 v8])) ∧
        ∃ (v9 : Bool), (cl n f_scarfref11_None [.agg [i64 v1, .sl v2 v3 v4, .sl v5 v6 v7, i64 v8]] ⟨[], 0⟩ = some (.s (.bool v9), ⟨[], 0⟩)) ∧
        br v9
        (L_scarfref13_deep_0 n m a0_Kind a0_Namesu a0_Namesn a0_Namesc a0_Lu a0_Ln a0_Lc a0_R a1 (IntKind.i64.wrap (x0_0 + (1))) Q)
        (((0 : Int) ≤ x0_0 ∧ x0_0 < ((a0_Ln : Nat) : Int) ∧ Int.toNat x0_0 * 4 < (a0_Lc : List PV).length) ∧
          ∃ (v10 : Int) (v11 : Bool) (v12 : Nat) (v13 : List PV) (v14 : Bool) (v15 : Nat) (v16 : List PV) (v17 : Int), (ld prog t_api_Type a0_Lc (Int.toNat x0_0 * 4) (.agg [i64 v10, .sl v11 v12 v13, .sl v14 v15 v16, i64 v17])) ∧
          ∃ (v18 : Bool), (cl n f_scarfref13_deep [.agg [i64 v10, .sl v11 v12 v13, .sl v14 v15 v16, i64 v17], i64 (IntKind.i64.wrap (a1 + (1)))] ⟨[], 0⟩ = some (.s (.bool v18), ⟨[], 0⟩)) ∧
          br (!v18)
          (Q (.s (.bool false)) ⟨[], 0⟩)
          (L_scarfref13_deep_0 n m a0_Kind a0_Namesu a0_Namesn a0_Namesc a0_Lu a0_Ln a0_Lc a0_R a1 (IntKind.i64.wrap (x0_0 + (1))) Q)))
      (br (decide (a0_Kind = (18)))
        (((0 : Int) ≤ x0_0 ∧ x0_0 < ((a0_Ln : Nat) : Int) ∧ Int.toNat x0_0 * 4 < (a0_Lc : List PV).length) ∧
          ∃ (v19 : Int) (v20 : Bool) (v21 : Nat) (v22 : List PV) (v23 : Bool) (v24 : Nat) (v25 : List PV) (v26 : Int), (ld prog t_api_Type a0_Lc (Int.toNat x0_0 * 4) (.agg [i64 v19, .sl v20 v21 v22, .sl v23 v24 v25, i64 v26])) ∧
          ∃ (v27 : Bool), (cl n f_scarfref11_None [.agg [i64 v19, .sl v20 v21 v22, .sl v23 v24 v25, i64 v26]] ⟨[], 0⟩ = some (.s (.bool v27), ⟨[], 0⟩)) ∧
          br v27
          (L_scarfref13_deep_0 n m a0_Kind a0_Namesu a0_Namesn a0_Namesc a0_Lu a0_Ln a0_Lc a0_R a1 (IntKind.i64.wrap (x0_0 + (1))) Q)
          (((0 : Int) ≤ x0_0 ∧ x0_0 < ((a0_Ln : Nat) : Int) ∧ Int.toNat x0_0 * 4 < (a0_Lc : List PV).length) ∧
            ∃ (v28 : Int) (v29 : Bool) (v30 : Nat) (v31 : List PV) (v32 : Bool) (v33 : Nat) (v34 : List PV) (v35 : Int), (ld prog t_api_Type a0_Lc (Int.toNat x0_0 * 4) (.agg [i64 v28, .sl v29 v30 v31, .sl v32 v33 v34, i64 v35])) ∧
            ∃ (v36 : Bool), (cl n f_scarfref13_deep [.agg [i64 v28, .sl v29 v30 v31, .sl v32 v33 v34, i64 v35], i64 (IntKind.i64.wrap (a1 + (1)))] ⟨[], 0⟩ = some (.s (.bool v36), ⟨[], 0⟩)) ∧
            br (!v36)
            (Q (.s (.bool false)) ⟨[], 0⟩)
            (L_scarfref13_deep_0 n m a0_Kind a0_Namesu a0_Namesn a0_Namesc a0_Lu a0_Ln a0_Lc a0_R a1 (IntKind.i64.wrap (x0_0 + (1))) Q)))
        (((0 : Int) ≤ x0_0 ∧ x0_0 < ((a0_Ln : Nat) : Int) ∧ Int.toNat x0_0 * 4 < (a0_Lc : List PV).length) ∧
          ∃ (v37 : Int) (v38 : Bool) (v39 : Nat) (v40 : List PV) (v41 : Bool) (v42 : Nat) (v43 : List PV) (v44 : Int), (ld prog t_api_Type a0_Lc (Int.toNat x0_0 * 4) (.agg [i64 v37, .sl v38 v39 v40, .sl v41 v42 v43, i64 v44])) ∧
          ∃ (v45 : Bool), (cl n f_scarfref13_deep [.agg [i64 v37, .sl v38 v39 v40, .sl v41 v42 v43, i64 v44], i64 (IntKind.i64.wrap (a1 + (1)))] ⟨[], 0⟩ = some (.s (.bool v45), ⟨[], 0⟩)) ∧
          br (!v45)
          (Q (.s (.bool false)) ⟨[], 0⟩)
          (L_scarfref13_deep_0 n m a0_Kind a0_Namesu a0_Namesn a0_Namesc a0_Lu a0_Ln a0_Lc a0_R a1 (IntKind.i64.wrap (x0_0 + (1))) Q))))
    (Q (.s (.bool true)) ⟨[], 0⟩)) :
  L_scarfref13_deep_0 n (m + 1) a0_Kind a0_Namesu a0_Namesn a0_Namesc a0_Lu a0_Ln a0_Lc a0_R a1 x0_0 Q := by
  unfold L_scarfref13_deep_0
  exact Ends_eq (asks := asks_scarfref13_deep) (by kernel_rfl) h
/-! ### scarf/scarfref13.parts -/
def asks_scarfref13_parts : Asks := [(5003, .cond), (5005, .told (.sh (.one (.int .i64)))), (6004, .cond), (6005, .told (.sh (.agg [.int .i64, .sl, .sl, .int .i64]))), (6006, .told (.sh (.one (.int .i64))))]
@[irreducible] noncomputable def L_scarfref13_parts_0 (n m : Nat) (a0_Kind : Int) (a0_Namesu : Bool) (a0_Namesn : Nat) (a0_Namesc : List PV) (a0_Lu : Bool) (a0_Ln : Nat) (a0_Lc : List PV) (a0_R : Int) (x0_0 : Int) (x0_1 : Int) (Q : PV → Store → Prop) : Prop := Pvm.Ends cfg (cl n) f_scarfref13_parts n (codeAt (bodyOf Tryz.f43) [1, 1, 0, 1, 0]) m
  { regs := [(1, .loc 1 0), (3, .v (i64 x0_0)), (4, .v (i64 x0_1))], st := ⟨[(1, [i64 a0_Kind, .sl a0_Namesu a0_Namesn a0_Namesc, .sl a0_Lu a0_Ln a0_Lc, i64 a0_R])], ⟨[], 0⟩⟩, nt := 32 }
  (contC cfg (cl n) f_scarfref13_parts n asks_scarfref13_parts (bodyOf Tryz.f43) [1, 1, 0, 1, 0] [] (retK cfg Tryz.f43 Q))
theorem vc_scarfref13_parts (n : Nat) (a0_Kind : Int) (a0_Namesu : Bool) (a0_Namesn : Nat) (a0_Namesc : List PV) (a0_Lu : Bool) (a0_Ln : Nat) (a0_Lc : List PV) (a0_R : Int) (Q : PV → Store → Prop)
  (h :
    L_scarfref13_parts_0 n n a0_Kind a0_Namesu a0_Namesn a0_Namesc a0_Lu a0_Ln a0_Lc a0_R (1) (0) Q) :
  Ret cfg (n + 1) f_scarfref13_parts [.agg [i64 a0_Kind, .sl a0_Namesu a0_Namesn a0_Namesc, .sl a0_Lu a0_Ln a0_Lc, i64 a0_R]] ⟨[], 0⟩ Q :=
  vcRun_eq (fn := Tryz.f43) (asks := asks_scarfref13_parts) (by kernel_rfl) (by kernel_rfl) (by kernel_rfl) (by kernel_rfl) (by kernel_rfl) h
theorem lp_scarfref13_parts_0 (n m : Nat) (a0_Kind : Int) (a0_Namesu : Bool) (a0_Namesn : Nat) (a0_Namesc : List PV) (a0_Lu : Bool) (a0_Ln : Nat) (a0_Lc : List PV) (a0_R : Int) (x0_0 : Int) (x0_1 : Int) (Q : PV → Store → Prop)
  (h :
    br (decide (x0_1 < ((a0_Ln : Nat) : Int)))
    (br (decide (x0_0 ≤ (500)))
      (((0 : Int) ≤ x0_1 ∧ x0_1 < ((a0_Ln : Nat) : Int) ∧ Int.toNat x0_1 * 4 < (a0_Lc : List PV).length) ∧
        ∃ (v1 : Int), (ld prog t_int a0_Lc ((Int.toNat x0_1 * 4) + 0) (i64 v1)) ∧
        br (!(decide (v1 = (0))))
        (((0 : Int) ≤ x0_1 ∧ x0_1 < ((a0_Ln : Nat) : Int) ∧ Int.toNat x0_1 * 4 < (a0_Lc : List PV).length) ∧
          ∃ (v2 : Int) (v3 : Bool) (v4 : Nat) (v5 : List PV) (v6 : Bool) (v7 : Nat) (v8 : List PV) (v9 : Int), (ld prog t_api_Type a0_Lc (Int.toNat x0_1 * 4) (.agg [i64 v2, .sl v3 v4 v5, .sl v6 v7 v8, i64 v9])) ∧
          ∃ (v10 : Int), (cl n f_scarfref13_parts [.agg [i64 v2, .sl v3 v4 v5, .sl v6 v7 v8, i64 v9]] ⟨[], 0⟩ = some (i64 v10, ⟨[], 0⟩)) ∧
          L_scarfref13_parts_0 n m a0_Kind a0_Namesu a0_Namesn a0_Namesc a0_Lu a0_Ln a0_Lc a0_R (IntKind.i64.wrap (x0_0 + v10)) (IntKind.i64.wrap (x0_1 + (1))) Q)
        (L_scarfref13_parts_0 n m a0_Kind a0_Namesu a0_Namesn a0_Namesc a0_Lu a0_Ln a0_Lc a0_R x0_0 (IntKind.i64.wrap (x0_1 + (1))) Q))
      (Q (i64 x0_0) ⟨[], 0⟩))
    (Q (i64 x0_0) ⟨[], 0⟩)) :
  L_scarfref13_parts_0 n (m + 1) a0_Kind a0_Namesu a0_Namesn a0_Namesc a0_Lu a0_Ln a0_Lc a0_R x0_0 x0_1 Q := by
  unfold L_scarfref13_parts_0
  exact Ends_eq (asks := asks_scarfref13_parts) (by kernel_rfl) h
/-! ### scarf/scarfref15.whole -/
def asks_scarfref15_whole : Asks := [(6002, .cond), (6003, .told (.sh (.one (.int .i64)))), (10003, .cond), (10004, .told (.sh (.one (.int .i64))))]
@[irreducible] noncomputable def L_scarfref15_whole_0 (n m : Nat) (a1 : Int) (x0_0 : Int) (x0_1 : Int) (x0_2 : Int) (Q : PV → Store → Prop) : Prop := Pvm.Ends cfg (cl n) f_scarfref15_whole n (codeAt (bodyOf Tryz.f44) [1, 1, 1, 1, 1, 1, 0, 1, 0]) m
  { regs := [(0, .v (i64 x0_0)), (1, .v (i64 a1)), (5, .v (.sl true 10 [i64 (0), i64 (1), i64 (8), i64 (8), i64 (16), i64 (16), i64 (32), i64 (32), i64 (64), i64 (64)])), (6, .v (i64 x0_1)), (7, .v (i64 x0_2))], st := ⟨[], ⟨[], 0⟩⟩, nt := 60 }
  (contC cfg (cl n) f_scarfref15_whole n asks_scarfref15_whole (bodyOf Tryz.f44) [1, 1, 1, 1, 1, 1, 0, 1, 0] [] (retK cfg Tryz.f44 Q))
theorem vc_scarfref15_whole (n : Nat) (a0 : Int) (a1 : Int) (Q : PV → Store → Prop)
  (h :
    br (decide (a0 = (20)))
    (((0 : Int) ≤ (7) ∧ (7) < ((10 : Nat) : Int) ∧ Int.toNat (7) * 1 < ([i64 (0), i64 (1), i64 (8), i64 (8), i64 (16), i64 (16), i64 (32), i64 (32), i64 (64), i64 (64)] : List PV).length) ∧
      ∃ (v1 : Int), (ld prog t_int [i64 (0), i64 (1), i64 (8), i64 (8), i64 (16), i64 (16), i64 (32), i64 (32), i64 (64), i64 (64)] 7 (i64 v1)) ∧
      br (decide (v1 = (64)))
      (Q (i64 (2)) ⟨[], 0⟩)
      (L_scarfref15_whole_0 n n a1 (7) (1) (0) Q))
    (br (decide (a0 = (21)))
      (((0 : Int) ≤ (7) ∧ (7) < ((10 : Nat) : Int) ∧ Int.toNat (7) * 1 < ([i64 (0), i64 (1), i64 (8), i64 (8), i64 (16), i64 (16), i64 (32), i64 (32), i64 (64), i64 (64)] : List PV).length) ∧
        ∃ (v2 : Int), (ld prog t_int [i64 (0), i64 (1), i64 (8), i64 (8), i64 (16), i64 (16), i64 (32), i64 (32), i64 (64), i64 (64)] 7 (i64 v2)) ∧
        br (decide (v2 = (64)))
        (Q (i64 (2)) ⟨[], 0⟩)
        (L_scarfref15_whole_0 n n a1 (7) (1) (0) Q))
      (br (decide (a0 < (1)))
        (Q (i64 (0)) ⟨[], 0⟩)
        (br (decide (a0 > (9)))
          (Q (i64 (0)) ⟨[], 0⟩)
          (((0 : Int) ≤ a0 ∧ a0 < ((10 : Nat) : Int) ∧ Int.toNat a0 * 1 < ([i64 (0), i64 (1), i64 (8), i64 (8), i64 (16), i64 (16), i64 (32), i64 (32), i64 (64), i64 (64)] : List PV).length) ∧
            ∃ (v3 : Int), (ld prog t_int [i64 (0), i64 (1), i64 (8), i64 (8), i64 (16), i64 (16), i64 (32), i64 (32), i64 (64), i64 (64)] (Int.toNat a0 * 1) (i64 v3)) ∧
            br (decide (v3 = (64)))
            (Q (i64 (2)) ⟨[], 0⟩)
            (L_scarfref15_whole_0 n n a1 a0 (1) (0) Q)))))) :
  Ret cfg (n + 1) f_scarfref15_whole [i64 a0, i64 a1] ⟨[], 0⟩ Q :=
  vcRun_eq (fn := Tryz.f44) (asks := asks_scarfref15_whole) (by kernel_rfl) (by kernel_rfl) (by kernel_rfl) (by kernel_rfl) (by kernel_rfl) h
theorem lp_scarfref15_whole_0 (n m : Nat) (a1 : Int) (x0_0 : Int) (x0_1 : Int) (x0_2 : Int) (Q : PV → Store → Prop)
  (h :
    ((0 : Int) ≤ x0_0 ∧ x0_0 < ((10 : Nat) : Int) ∧ Int.toNat x0_0 * 1 < ([i64 (0), i64 (1), i64 (8), i64 (8), i64 (16), i64 (16), i64 (32), i64 (32), i64 (64), i64 (64)] : List PV).length) ∧
    ∃ (v1 : Int), (ld prog t_int [i64 (0), i64 (1), i64 (8), i64 (8), i64 (16), i64 (16), i64 (32), i64 (32), i64 (64), i64 (64)] (Int.toNat x0_0 * 1) (i64 v1)) ∧
    br (decide (x0_2 < v1))
    (L_scarfref15_whole_0 n m a1 x0_0 (IntKind.i64.wrap (x0_1 * (2))) (IntKind.i64.wrap (x0_2 + (1))) Q)
    (br (decide (x0_0 = (2)))
      (br (decide (a1 ≥ (IntKind.i64.wrap (Int.tdiv (IntKind.i64.wrap (0 - x0_1)) (2)))))
        (br (decide (a1 < (IntKind.i64.wrap (Int.tdiv x0_1 (2)))))
          (Q (i64 (2)) ⟨[], 0⟩)
          (Q (i64 (1)) ⟨[], 0⟩))
        (Q (i64 (1)) ⟨[], 0⟩))
      (br (decide (x0_0 = (4)))
        (br (decide (a1 ≥ (IntKind.i64.wrap (Int.tdiv (IntKind.i64.wrap (0 - x0_1)) (2)))))
          (br (decide (a1 < (IntKind.i64.wrap (Int.tdiv x0_1 (2)))))
            (Q (i64 (2)) ⟨[], 0⟩)
            (Q (i64 (1)) ⟨[], 0⟩))
          (Q (i64 (1)) ⟨[], 0⟩))
        (br (decide (x0_0 = (6)))
          (br (decide (a1 ≥ (IntKind.i64.wrap (Int.tdiv (IntKind.i64.wrap (0 - x0_1)) (2)))))
            (br (decide (a1 < (IntKind.i64.wrap (Int.tdiv x0_1 (2)))))
              (Q (i64 (2)) ⟨[], 0⟩)
              (Q (i64 (1)) ⟨[], 0⟩))
            (Q (i64 (1)) ⟨[], 0⟩))
          (br (decide (a1 ≥ (0)))
            (br (decide (a1 < x0_1))
              (Q (i64 (2)) ⟨[], 0⟩)
              (Q (i64 (1)) ⟨[], 0⟩))
            (Q (i64 (1)) ⟨[], 0⟩)))))) :
  L_scarfref15_whole_0 n (m + 1) a1 x0_0 x0_1 x0_2 Q := by
  unfold L_scarfref15_whole_0
  exact Ends_eq (asks := asks_scarfref15_whole) (by kernel_rfl) h
/-! ### scarf/scarfref02.Scalar -/
def asks_scarfref02_Scalar : Asks := []
theorem vc_scarfref02_Scalar (n : Nat) (a0 : Int) (Q : PV → Store → Prop)
  (h :
    br (decide (a0 ≥ (0)))
    (br (decide (a0 ≤ (1114111)))
      (br (decide (a0 < (55296)))
        (Q (.s (.bool true)) ⟨[], 0⟩)
        (Q (.s (.bool (decide (a0 > (57343))))) ⟨[], 0⟩))
      (Q (.s (.bool false)) ⟨[], 0⟩))
    (Q (.s (.bool false)) ⟨[], 0⟩)) :
  Ret cfg (n + 1) f_scarfref02_Scalar [i64 a0] ⟨[], 0⟩ Q :=
  vcRun_eq (fn := Tryz.f45) (asks := asks_scarfref02_Scalar) (by kernel_rfl) (by kernel_rfl) (by kernel_rfl) (by kernel_rfl) (by kernel_rfl) h
/-! ### scarf/scarfref15.inside -/
def asks_scarfref15_inside : Asks := [(1002, .told (.tup [.one (.sl), .one (.bool)])), (4003, .told (.sh (.one (.int .i64))))]
theorem vc_scarfref15_inside (n : Nat) (a0_Kind : Int) (a0_Namesu : Bool) (a0_Namesn : Nat) (a0_Namesc : List PV) (a0_Lu : Bool) (a0_Ln : Nat) (a0_Lc : List PV) (a0_R : Int) (a1_N : Int) (a1_Su : Bool) (a1_Sn : Nat) (a1_Sc : List PV) (a1_Lu : Bool) (a1_Ln : Nat) (a1_Lc : List PV) (Q : PV → Store → Prop)
  (h :
    ∃ (v1 : Bool) (v2 : Nat) (v3 : List PV) (v4 : Bool), (cl n f_scarfref15_Inside [.agg [i64 a0_Kind, .sl a0_Namesu a0_Namesn a0_Namesc, .sl a0_Lu a0_Ln a0_Lc, i64 a0_R], .agg [i64 a1_N, .sl a1_Su a1_Sn a1_Sc, .sl a1_Lu a1_Ln a1_Lc]] ⟨[], 0⟩ = some (.tup [.sl v1 v2 v3, .s (.bool v4)], ⟨[], 0⟩)) ∧
    br (!v4)
    (Q (i64 (0)) ⟨[], 0⟩)
    (∃ (v5 : Int), (cl n f_scarfref15_sum [.sl v1 v2 v3, .sl a1_Lu a1_Ln a1_Lc] ⟨[], 0⟩ = some (i64 v5, ⟨[], 0⟩)) ∧
      Q (i64 v5) ⟨[], 0⟩)) :
  Ret cfg (n + 1) f_scarfref15_inside [.agg [i64 a0_Kind, .sl a0_Namesu a0_Namesn a0_Namesc, .sl a0_Lu a0_Ln a0_Lc, i64 a0_R], .agg [i64 a1_N, .sl a1_Su a1_Sn a1_Sc, .sl a1_Lu a1_Ln a1_Lc]] ⟨[], 0⟩ Q :=
  vcRun_eq (fn := Tryz.f46) (asks := asks_scarfref15_inside) (by kernel_rfl) (by kernel_rfl) (by kernel_rfl) (by kernel_rfl) (by kernel_rfl) h
/-! ### scarf/scarfref13.Plain -/
def asks_scarfref13_Plain : Asks := [(7003, .told (.sh (.one (.str)))), (7005, .cond), (8005, .cond), (8006, .told (.sh (.agg [.int .i64, .sl, .sl, .int .i64]))), (8008, .cond), (14004, .cond), (17004, .cond)]
@[irreducible] noncomputable def L_scarfref13_Plain_0 (n m : Nat) (a0_Kind : Int) (a0_Namesu : Bool) (a0_Namesn : Nat) (a0_Namesc : List PV) (a0_Lu : Bool) (a0_Ln : Nat) (a0_Lc : List PV) (a0_R : Int) (Q : PV → Store → Prop) : Prop := Pvm.Ends cfg (cl n) f_scarfref13_Plain n (codeAt (bodyOf Tryz.f47) [1, 1, 0, 1, 0, 1, 1, 0]) m
  { regs := [(1, .loc 1 0), (2, .loc 2 0), (3, .loc 3 0), (4, .v (i64 (0))), (5, .v (.any))], st := ⟨[(1, [i64 a0_Kind, .sl a0_Namesu a0_Namesn a0_Namesc, .sl a0_Lu a0_Ln a0_Lc, i64 a0_R]), (2, [i64 (0), .sl true 0 [], .sl true 0 [], i64 (0)]), (3, [i64 (13), .sl true 0 [], .sl true 0 [], i64 (0)])], ⟨[], 0⟩⟩, nt := 75 }
  (contC cfg (cl n) f_scarfref13_Plain n asks_scarfref13_Plain (bodyOf Tryz.f47) [1, 1, 0, 1, 0, 1, 1, 0] [] (retK cfg Tryz.f47 Q))
@[irreducible] noncomputable def L_scarfref13_Plain_1 (n m : Nat) (a0_Kind : Int) (a0_Namesu : Bool) (a0_Namesn : Nat) (a0_Namesc : List PV) (a0_Lu : Bool) (a0_Ln : Nat) (a0_Lc : List PV) (a0_R : Int) (x1_0 : RV) (Q : PV → Store → Prop) : Prop := Pvm.Ends cfg (cl n) f_scarfref13_Plain n (codeAt (bodyOf Tryz.f47) [1, 1, 1, 0, 1, 0, 1, 1, 0]) m
  { regs := [(1, .loc 1 0), (2, .loc 2 0), (3, .loc 3 0), (4, x1_0), (5, .v (i64 (0)))], st := ⟨[(1, [i64 a0_Kind, .sl a0_Namesu a0_Namesn a0_Namesc, .sl a0_Lu a0_Ln a0_Lc, i64 a0_R]), (2, [i64 (0), .sl true 0 [], .sl true 0 [], i64 (0)]), (3, [i64 (15), .sl a0_Namesu a0_Namesn a0_Namesc, .sl true 0 [], i64 (0)])], ⟨[], 0⟩⟩, nt := 75 }
  (contC cfg (cl n) f_scarfref13_Plain n asks_scarfref13_Plain (bodyOf Tryz.f47) [1, 1, 1, 0, 1, 0, 1, 1, 0] [] (retK cfg Tryz.f47 Q))
@[irreducible] noncomputable def L_scarfref13_Plain_2 (n m : Nat) (a0_Kind : Int) (a0_Namesu : Bool) (a0_Namesn : Nat) (a0_Namesc : List PV) (a0_Lu : Bool) (a0_Ln : Nat) (a0_Lc : List PV) (a0_R : Int) (x2_0 : Int) (x2_1 : Nat) (x2_2 : Nat) (x2_3 : List PV) (x2_4 : List PV) (Q : PV → Store → Prop) : Prop := Pvm.Ends cfg (cl n) f_scarfref13_Plain n (codeAt (bodyOf Tryz.f47) [1, 1, 0, 1, 0, 1, 1, 0]) m
  { regs := [(1, .loc 1 0), (2, .loc 2 0), (3, .loc 3 0), (4, .v (i64 x2_0)), (5, .v (.any))], st := ⟨[(1, [i64 a0_Kind, .sl a0_Namesu a0_Namesn a0_Namesc, .sl a0_Lu a0_Ln a0_Lc, i64 a0_R]), (2, [i64 (0), .sl true 0 [], .sl true 0 [], i64 (0)]), (3, [i64 (13), .bsl 0 x2_1 0 x2_2, .bsl 1 x2_1 0 x2_2, i64 (0)])], ⟨[(1, ⟨x2_1, 4, x2_3⟩), (0, ⟨x2_1, 1, x2_4⟩)], 2⟩⟩, nt := 75 }
  (contC cfg (cl n) f_scarfref13_Plain n asks_scarfref13_Plain (bodyOf Tryz.f47) [1, 1, 0, 1, 0, 1, 1, 0] [] (retK cfg Tryz.f47 Q))
@[irreducible] noncomputable def L_scarfref13_Plain_3 (n m : Nat) (a0_Kind : Int) (a0_Namesu : Bool) (a0_Namesn : Nat) (a0_Namesc : List PV) (a0_Lu : Bool) (a0_Ln : Nat) (a0_Lc : List PV) (a0_R : Int) (x3_0 : RV) (x3_1 : Int) (x3_2 : Nat) (x3_3 : Nat) (x3_4 : List PV) (Q : PV → Store → Prop) : Prop := Pvm.Ends cfg (cl n) f_scarfref13_Plain n (codeAt (bodyOf Tryz.f47) [1, 1, 1, 0, 1, 0, 1, 1, 0]) m
  { regs := [(1, .loc 1 0), (2, .loc 2 0), (3, .loc 3 0), (4, x3_0), (5, .v (i64 x3_1))], st := ⟨[(1, [i64 a0_Kind, .sl a0_Namesu a0_Namesn a0_Namesc, .sl a0_Lu a0_Ln a0_Lc, i64 a0_R]), (2, [i64 (0), .sl true 0 [], .sl true 0 [], i64 (0)]), (3, [i64 (15), .sl a0_Namesu a0_Namesn a0_Namesc, .bsl 0 x3_2 0 x3_3, i64 (0)])], ⟨[(0, ⟨x3_2, 4, x3_4⟩)], 1⟩⟩, nt := 75 }
  (contC cfg (cl n) f_scarfref13_Plain n asks_scarfref13_Plain (bodyOf Tryz.f47) [1, 1, 1, 0, 1, 0, 1, 1, 0] [] (retK cfg Tryz.f47 Q))
@[irreducible] noncomputable def L_scarfref13_Plain_4 (n m : Nat) (a0_Kind : Int) (a0_Namesu : Bool) (a0_Namesn : Nat) (a0_Namesc : List PV) (a0_Lu : Bool) (a0_Ln : Nat) (a0_Lc : List PV) (a0_R : Int) (x4_0 : Int) (x4_1 : List PV) (x4_2 : Nat) (x4_3 : List PV) (Q : PV → Store → Prop) : Prop := Pvm.Ends cfg (cl n) f_scarfref13_Plain n (codeAt (bodyOf Tryz.f47) [1, 1, 1, 0, 1, 0, 1, 1, 0]) m
  { regs := [(1, .loc 1 0), (2, .loc 2 0), (3, .loc 3 0), (4, .v (i64 x4_0)), (5, .v (i64 (0)))], st := ⟨[(1, [i64 a0_Kind, .sl a0_Namesu a0_Namesn a0_Namesc, .sl a0_Lu a0_Ln a0_Lc, i64 a0_R]), (2, [i64 (0), .sl true 0 [], .sl true 0 [], i64 (0)]), (3, [i64 (15), .sl a0_Namesu a0_Namesn a0_Namesc, .sl true 0 [], i64 (0)])], ⟨[(1, ⟨x4_2, 4, x4_1⟩), (0, ⟨x4_2, 1, x4_3⟩)], 2⟩⟩, nt := 75 }
  (contC cfg (cl n) f_scarfref13_Plain n asks_scarfref13_Plain (bodyOf Tryz.f47) [1, 1, 1, 0, 1, 0, 1, 1, 0] [] (retK cfg Tryz.f47 Q))
@[irreducible] noncomputable def L_scarfref13_Plain_5 (n m : Nat) (a0_Kind : Int) (a0_Namesu : Bool) (a0_Namesn : Nat) (a0_Namesc : List PV) (a0_Lu : Bool) (a0_Ln : Nat) (a0_Lc : List PV) (a0_R : Int) (x5_0 : Int) (x5_1 : Int) (x5_2 : Nat) (x5_3 : Nat) (x5_4 : List PV) (x5_5 : List PV) (x5_6 : Nat) (x5_7 : List PV) (Q : PV → Store → Prop) : Prop := Pvm.Ends cfg (cl n) f_scarfref13_Plain n (codeAt (bodyOf Tryz.f47) [1, 1, 1, 0, 1, 0, 1, 1, 0]) m
  { regs := [(1, .loc 1 0), (2, .loc 2 0), (3, .loc 3 0), (4, .v (i64 x5_0)), (5, .v (i64 x5_1))], st := ⟨[(1, [i64 a0_Kind, .sl a0_Namesu a0_Namesn a0_Namesc, .sl a0_Lu a0_Ln a0_Lc, i64 a0_R]), (2, [i64 (0), .sl true 0 [], .sl true 0 [], i64 (0)]), (3, [i64 (15), .sl a0_Namesu a0_Namesn a0_Namesc, .bsl 2 x5_2 0 x5_3, i64 (0)])], ⟨[(2, ⟨x5_2, 4, x5_4⟩), (1, ⟨x5_6, 4, x5_5⟩), (0, ⟨x5_6, 1, x5_7⟩)], 3⟩⟩, nt := 75 }
  (contC cfg (cl n) f_scarfref13_Plain n asks_scarfref13_Plain (bodyOf Tryz.f47) [1, 1, 1, 0, 1, 0, 1, 1, 0] [] (retK cfg Tryz.f47 Q))
theorem vc_scarfref13_Plain (n : Nat) (a0_Kind : Int) (a0_Namesu : Bool) (a0_Namesn : Nat) (a0_Namesc : List PV) (a0_Lu : Bool) (a0_Ln : Nat) (a0_Lc : List PV) (a0_R : Int) (Q : PV → Store → Prop)
  (h :
    br (decide (a0_Kind = (14)))
    (L_scarfref13_Plain_0 n n a0_Kind a0_Namesu a0_Namesn a0_Namesc a0_Lu a0_Ln a0_Lc a0_R Q)
    (br (decide (a0_Kind = (16)))
      (L_scarfref13_Plain_1 n n a0_Kind a0_Namesu a0_Namesn a0_Namesc a0_Lu a0_Ln a0_Lc a0_R (.v (.any)) Q)
      (br (decide (a0_Kind = (17)))
        (((a0_Lc : List PV).length = a0_Ln * 4 ∧ (a0_Lc : List PV).all oneC = true ∧ true = true ∧ ([i64 (0), .sl true 0 [], .sl true 0 [], i64 (0)] : List PV).length = 1 * 4 ∧ ([i64 (0), .sl true 0 [], .sl true 0 [], i64 (0)] : List PV).all oneC = true ∧ (1 + a0_Ln) * 64 ≤ 140737488355328 ∧ 1 + a0_Ln ≤ 140737488355328 ∧ (1 = 0 ∨ 0 < a0_Ln)) ∧
          br (decide (a0_Kind = (18)))
          (Q (.agg [i64 (15), .sl true 2 [.s (.string (ByteArray.mk #[111, 107])), .s (.string (ByteArray.mk #[101, 114, 114, 111, 114]))], .sl a0_Lu a0_Ln a0_Lc, i64 (0)]) ⟨[(0, ⟨0, 4, ([i64 (0), .sl true 0 [], .sl true 0 [], i64 (0)] ++ a0_Lc)⟩)], 1⟩)
          (Q (.agg [i64 (15), .sl true 2 [.s (.string (ByteArray.mk #[110, 111, 110, 101])), .s (.string (ByteArray.mk #[115, 111, 109, 101]))], .bsl 0 0 0 (1 + a0_Ln), i64 (0)]) ⟨[(0, ⟨0, 4, ([i64 (0), .sl true 0 [], .sl true 0 [], i64 (0)] ++ a0_Lc)⟩)], 1⟩))
        (br (decide (a0_Kind = (18)))
          (Q (.agg [i64 (15), .sl true 2 [.s (.string (ByteArray.mk #[111, 107])), .s (.string (ByteArray.mk #[101, 114, 114, 111, 114]))], .sl a0_Lu a0_Ln a0_Lc, i64 (0)]) ⟨[], 0⟩)
          (Q (.agg [i64 a0_Kind, .sl a0_Namesu a0_Namesn a0_Namesc, .sl a0_Lu a0_Ln a0_Lc, i64 a0_R]) ⟨[], 0⟩))))) :
  Ret cfg (n + 1) f_scarfref13_Plain [.agg [i64 a0_Kind, .sl a0_Namesu a0_Namesn a0_Namesc, .sl a0_Lu a0_Ln a0_Lc, i64 a0_R]] ⟨[], 0⟩ Q :=
  vcRun_eq (fn := Tryz.f47) (asks := asks_scarfref13_Plain) (by kernel_rfl) (by kernel_rfl) (by kernel_rfl) (by kernel_rfl) (by kernel_rfl) h
theorem lp_scarfref13_Plain_0 (n m : Nat) (a0_Kind : Int) (a0_Namesu : Bool) (a0_Namesn : Nat) (a0_Namesc : List PV) (a0_Lu : Bool) (a0_Ln : Nat) (a0_Lc : List PV) (a0_R : Int) (Q : PV → Store → Prop)
  (h :
    br (decide ((0) < ((a0_Ln : Nat) : Int)))
    (∃ (v1 : ByteArray), (cl n f_scarfref13_digits [i64 (0)] ⟨[], 0⟩ = some (.s (.string v1), ⟨[], 0⟩)) ∧
      (([.s (.string v1)] : List PV).length = 1 * 1 ∧ ([.s (.string v1)] : List PV).all oneC = true ∧ true = true ∧ ([] : List PV).length = 0 * 1 ∧ ([] : List PV).all oneC = true ∧ (0 + 1) * 16 ≤ 140737488355328 ∧ 0 + 1 ≤ 140737488355328 ∧ (0 = 0 ∨ 0 < 1)) ∧
      ((0 : Int) ≤ (0) ∧ (0) < ((a0_Ln : Nat) : Int) ∧ Int.toNat (0) * 4 < (a0_Lc : List PV).length) ∧
      ∃ (v2 : Int) (v3 : Bool) (v4 : Nat) (v5 : List PV) (v6 : Bool) (v7 : Nat) (v8 : List PV) (v9 : Int), (ld prog t_api_Type a0_Lc 0 (.agg [i64 v2, .sl v3 v4 v5, .sl v6 v7 v8, i64 v9])) ∧
      (([i64 v2, .sl v3 v4 v5, .sl v6 v7 v8, i64 v9] : List PV).length = 1 * 4 ∧ ([i64 v2, .sl v3 v4 v5, .sl v6 v7 v8, i64 v9] : List PV).all oneC = true ∧ true = true ∧ ([] : List PV).length = 0 * 4 ∧ ([] : List PV).all oneC = true ∧ (0 + 1) * 64 ≤ 140737488355328 ∧ 0 + 1 ≤ 140737488355328 ∧ (0 = 0 ∨ 0 < 1)) ∧
      L_scarfref13_Plain_2 n m a0_Kind a0_Namesu a0_Namesn a0_Namesc a0_Lu a0_Ln a0_Lc a0_R (1) 0 1 [i64 v2, .sl v3 v4 v5, .sl v6 v7 v8, i64 v9] [.s (.string v1)] Q)
    (br (decide (a0_Kind = (16)))
      (L_scarfref13_Plain_1 n n a0_Kind a0_Namesu a0_Namesn a0_Namesc a0_Lu a0_Ln a0_Lc a0_R (.v (i64 (0))) Q)
      (br (decide (a0_Kind = (17)))
        (((a0_Lc : List PV).length = a0_Ln * 4 ∧ (a0_Lc : List PV).all oneC = true ∧ true = true ∧ ([i64 (0), .sl true 0 [], .sl true 0 [], i64 (0)] : List PV).length = 1 * 4 ∧ ([i64 (0), .sl true 0 [], .sl true 0 [], i64 (0)] : List PV).all oneC = true ∧ (1 + a0_Ln) * 64 ≤ 140737488355328 ∧ 1 + a0_Ln ≤ 140737488355328 ∧ (1 = 0 ∨ 0 < a0_Ln)) ∧
          br (decide (a0_Kind = (18)))
          (Q (.agg [i64 (15), .sl true 2 [.s (.string (ByteArray.mk #[111, 107])), .s (.string (ByteArray.mk #[101, 114, 114, 111, 114]))], .sl a0_Lu a0_Ln a0_Lc, i64 (0)]) ⟨[(0, ⟨0, 4, ([i64 (0), .sl true 0 [], .sl true 0 [], i64 (0)] ++ a0_Lc)⟩)], 1⟩)
          (Q (.agg [i64 (15), .sl true 2 [.s (.string (ByteArray.mk #[110, 111, 110, 101])), .s (.string (ByteArray.mk #[115, 111, 109, 101]))], .bsl 0 0 0 (1 + a0_Ln), i64 (0)]) ⟨[(0, ⟨0, 4, ([i64 (0), .sl true 0 [], .sl true 0 [], i64 (0)] ++ a0_Lc)⟩)], 1⟩))
        (br (decide (a0_Kind = (18)))
          (Q (.agg [i64 (15), .sl true 2 [.s (.string (ByteArray.mk #[111, 107])), .s (.string (ByteArray.mk #[101, 114, 114, 111, 114]))], .sl a0_Lu a0_Ln a0_Lc, i64 (0)]) ⟨[], 0⟩)
          (Q (.agg [i64 (13), .sl true 0 [], .sl true 0 [], i64 (0)]) ⟨[], 0⟩))))) :
  L_scarfref13_Plain_0 n (m + 1) a0_Kind a0_Namesu a0_Namesn a0_Namesc a0_Lu a0_Ln a0_Lc a0_R Q := by
  unfold L_scarfref13_Plain_0
  exact Ends_eq (asks := asks_scarfref13_Plain) (by kernel_rfl) h
theorem lp_scarfref13_Plain_1 (n m : Nat) (a0_Kind : Int) (a0_Namesu : Bool) (a0_Namesn : Nat) (a0_Namesc : List PV) (a0_Lu : Bool) (a0_Ln : Nat) (a0_Lc : List PV) (a0_R : Int) (x1_0 : RV) (Q : PV → Store → Prop)
  (h :
    br (decide ((0) < ((a0_Namesn : Nat) : Int)))
    ((([i64 (0), .sl true 0 [], .sl true 0 [], i64 (0)] : List PV).length = 1 * 4 ∧ ([i64 (0), .sl true 0 [], .sl true 0 [], i64 (0)] : List PV).all oneC = true ∧ true = true ∧ ([] : List PV).length = 0 * 4 ∧ ([] : List PV).all oneC = true ∧ (0 + 1) * 64 ≤ 140737488355328 ∧ 0 + 1 ≤ 140737488355328 ∧ (0 = 0 ∨ 0 < 1)) ∧
      L_scarfref13_Plain_3 n m a0_Kind a0_Namesu a0_Namesn a0_Namesc a0_Lu a0_Ln a0_Lc a0_R x1_0 (1) 0 1 [i64 (0), .sl true 0 [], .sl true 0 [], i64 (0)] Q)
    (br (decide (a0_Kind = (17)))
      (((a0_Lc : List PV).length = a0_Ln * 4 ∧ (a0_Lc : List PV).all oneC = true ∧ true = true ∧ ([i64 (0), .sl true 0 [], .sl true 0 [], i64 (0)] : List PV).length = 1 * 4 ∧ ([i64 (0), .sl true 0 [], .sl true 0 [], i64 (0)] : List PV).all oneC = true ∧ (1 + a0_Ln) * 64 ≤ 140737488355328 ∧ 1 + a0_Ln ≤ 140737488355328 ∧ (1 = 0 ∨ 0 < a0_Ln)) ∧
        br (decide (a0_Kind = (18)))
        (Q (.agg [i64 (15), .sl true 2 [.s (.string (ByteArray.mk #[111, 107])), .s (.string (ByteArray.mk #[101, 114, 114, 111, 114]))], .sl a0_Lu a0_Ln a0_Lc, i64 (0)]) ⟨[(0, ⟨0, 4, ([i64 (0), .sl true 0 [], .sl true 0 [], i64 (0)] ++ a0_Lc)⟩)], 1⟩)
        (Q (.agg [i64 (15), .sl true 2 [.s (.string (ByteArray.mk #[110, 111, 110, 101])), .s (.string (ByteArray.mk #[115, 111, 109, 101]))], .bsl 0 0 0 (1 + a0_Ln), i64 (0)]) ⟨[(0, ⟨0, 4, ([i64 (0), .sl true 0 [], .sl true 0 [], i64 (0)] ++ a0_Lc)⟩)], 1⟩))
      (br (decide (a0_Kind = (18)))
        (Q (.agg [i64 (15), .sl true 2 [.s (.string (ByteArray.mk #[111, 107])), .s (.string (ByteArray.mk #[101, 114, 114, 111, 114]))], .sl a0_Lu a0_Ln a0_Lc, i64 (0)]) ⟨[], 0⟩)
        (Q (.agg [i64 (15), .sl a0_Namesu a0_Namesn a0_Namesc, .sl true 0 [], i64 (0)]) ⟨[], 0⟩)))) :
  L_scarfref13_Plain_1 n (m + 1) a0_Kind a0_Namesu a0_Namesn a0_Namesc a0_Lu a0_Ln a0_Lc a0_R x1_0 Q := by
  unfold L_scarfref13_Plain_1
  exact Ends_eq (asks := asks_scarfref13_Plain) (by kernel_rfl) h
theorem lp_scarfref13_Plain_2 (n m : Nat) (a0_Kind : Int) (a0_Namesu : Bool) (a0_Namesn : Nat) (a0_Namesc : List PV) (a0_Lu : Bool) (a0_Ln : Nat) (a0_Lc : List PV) (a0_R : Int) (x2_0 : Int) (x2_1 : Nat) (x2_2 : Nat) (x2_3 : List PV) (x2_4 : List PV) (Q : PV → Store → Prop)
  (h :
    br (decide (x2_0 < ((a0_Ln : Nat) : Int)))
    (∃ (v1 : ByteArray), (cl n f_scarfref13_digits [i64 x2_0] ⟨[(1, ⟨x2_1, 4, x2_3⟩), (0, ⟨x2_1, 1, x2_4⟩)], 2⟩ = some (.s (.string v1), ⟨[(1, ⟨x2_1, 4, x2_3⟩), (0, ⟨x2_1, 1, x2_4⟩)], 2⟩)) ∧
      (([.s (.string v1)] : List PV).length = 1 * 1 ∧ ([.s (.string v1)] : List PV).all oneC = true ∧ x2_1 = x2_1 ∧ 0 = 0 ∧ 1 = 1 ∧ x2_2 * 1 ≤ (x2_4 : List PV).length ∧ ((List.take (x2_2 * 1) x2_4) : List PV).all oneC = true ∧ (x2_2 + 1) * 16 ≤ 140737488355328 ∧ x2_2 + 1 ≤ 140737488355328) ∧
      ((0 : Int) ≤ x2_0 ∧ x2_0 < ((a0_Ln : Nat) : Int) ∧ Int.toNat x2_0 * 4 < (a0_Lc : List PV).length) ∧
      ∃ (v2 : Int) (v3 : Bool) (v4 : Nat) (v5 : List PV) (v6 : Bool) (v7 : Nat) (v8 : List PV) (v9 : Int), (ld prog t_api_Type a0_Lc (Int.toNat x2_0 * 4) (.agg [i64 v2, .sl v3 v4 v5, .sl v6 v7 v8, i64 v9])) ∧
      (([i64 v2, .sl v3 v4 v5, .sl v6 v7 v8, i64 v9] : List PV).length = 1 * 4 ∧ ([i64 v2, .sl v3 v4 v5, .sl v6 v7 v8, i64 v9] : List PV).all oneC = true ∧ x2_1 = x2_1 ∧ 0 = 0 ∧ 4 = 4 ∧ x2_2 * 4 ≤ (x2_3 : List PV).length ∧ ((List.take (x2_2 * 4) x2_3) : List PV).all oneC = true ∧ (x2_2 + 1) * 64 ≤ 140737488355328 ∧ x2_2 + 1 ≤ 140737488355328) ∧
      L_scarfref13_Plain_2 n m a0_Kind a0_Namesu a0_Namesn a0_Namesc a0_Lu a0_Ln a0_Lc a0_R (IntKind.i64.wrap (x2_0 + (1))) (x2_1 + 1) (x2_2 + 1) ((List.take (x2_2 * 4) x2_3) ++ [i64 v2, .sl v3 v4 v5, .sl v6 v7 v8, i64 v9]) ((List.take (x2_2 * 1) x2_4) ++ [.s (.string v1)]) Q)
    (br (decide (a0_Kind = (16)))
      (L_scarfref13_Plain_4 n n a0_Kind a0_Namesu a0_Namesn a0_Namesc a0_Lu a0_Ln a0_Lc a0_R x2_0 x2_3 x2_1 x2_4 Q)
      (br (decide (a0_Kind = (17)))
        (((a0_Lc : List PV).length = a0_Ln * 4 ∧ (a0_Lc : List PV).all oneC = true ∧ true = true ∧ ([i64 (0), .sl true 0 [], .sl true 0 [], i64 (0)] : List PV).length = 1 * 4 ∧ ([i64 (0), .sl true 0 [], .sl true 0 [], i64 (0)] : List PV).all oneC = true ∧ (1 + a0_Ln) * 64 ≤ 140737488355328 ∧ 1 + a0_Ln ≤ 140737488355328 ∧ (1 = 0 ∨ 0 < a0_Ln)) ∧
          br (decide (a0_Kind = (18)))
          (Q (.agg [i64 (15), .sl true 2 [.s (.string (ByteArray.mk #[111, 107])), .s (.string (ByteArray.mk #[101, 114, 114, 111, 114]))], .sl a0_Lu a0_Ln a0_Lc, i64 (0)]) ⟨[(2, ⟨0, 4, ([i64 (0), .sl true 0 [], .sl true 0 [], i64 (0)] ++ a0_Lc)⟩), (1, ⟨x2_1, 4, x2_3⟩), (0, ⟨x2_1, 1, x2_4⟩)], 3⟩)
          (Q (.agg [i64 (15), .sl true 2 [.s (.string (ByteArray.mk #[110, 111, 110, 101])), .s (.string (ByteArray.mk #[115, 111, 109, 101]))], .bsl 2 0 0 (1 + a0_Ln), i64 (0)]) ⟨[(2, ⟨0, 4, ([i64 (0), .sl true 0 [], .sl true 0 [], i64 (0)] ++ a0_Lc)⟩), (1, ⟨x2_1, 4, x2_3⟩), (0, ⟨x2_1, 1, x2_4⟩)], 3⟩))
        (br (decide (a0_Kind = (18)))
          (Q (.agg [i64 (15), .sl true 2 [.s (.string (ByteArray.mk #[111, 107])), .s (.string (ByteArray.mk #[101, 114, 114, 111, 114]))], .sl a0_Lu a0_Ln a0_Lc, i64 (0)]) ⟨[(1, ⟨x2_1, 4, x2_3⟩), (0, ⟨x2_1, 1, x2_4⟩)], 2⟩)
          (Q (.agg [i64 (13), .bsl 0 x2_1 0 x2_2, .bsl 1 x2_1 0 x2_2, i64 (0)]) ⟨[(1, ⟨x2_1, 4, x2_3⟩), (0, ⟨x2_1, 1, x2_4⟩)], 2⟩))))) :
  L_scarfref13_Plain_2 n (m + 1) a0_Kind a0_Namesu a0_Namesn a0_Namesc a0_Lu a0_Ln a0_Lc a0_R x2_0 x2_1 x2_2 x2_3 x2_4 Q := by
  unfold L_scarfref13_Plain_2
  exact Ends_eq (asks := asks_scarfref13_Plain) (by kernel_rfl) h
theorem lp_scarfref13_Plain_3 (n m : Nat) (a0_Kind : Int) (a0_Namesu : Bool) (a0_Namesn : Nat) (a0_Namesc : List PV) (a0_Lu : Bool) (a0_Ln : Nat) (a0_Lc : List PV) (a0_R : Int) (x3_0 : RV) (x3_1 : Int) (x3_2 : Nat) (x3_3 : Nat) (x3_4 : List PV) (Q : PV → Store → Prop)
  (h :
    br (decide (x3_1 < ((a0_Namesn : Nat) : Int)))
    ((([i64 (0), .sl true 0 [], .sl true 0 [], i64 (0)] : List PV).length = 1 * 4 ∧ ([i64 (0), .sl true 0 [], .sl true 0 [], i64 (0)] : List PV).all oneC = true ∧ x3_2 = x3_2 ∧ 0 = 0 ∧ 4 = 4 ∧ x3_3 * 4 ≤ (x3_4 : List PV).length ∧ ((List.take (x3_3 * 4) x3_4) : List PV).all oneC = true ∧ (x3_3 + 1) * 64 ≤ 140737488355328 ∧ x3_3 + 1 ≤ 140737488355328) ∧
      L_scarfref13_Plain_3 n m a0_Kind a0_Namesu a0_Namesn a0_Namesc a0_Lu a0_Ln a0_Lc a0_R x3_0 (IntKind.i64.wrap (x3_1 + (1))) (x3_2 + 1) (x3_3 + 1) ((List.take (x3_3 * 4) x3_4) ++ [i64 (0), .sl true 0 [], .sl true 0 [], i64 (0)]) Q)
    (br (decide (a0_Kind = (17)))
      (((a0_Lc : List PV).length = a0_Ln * 4 ∧ (a0_Lc : List PV).all oneC = true ∧ true = true ∧ ([i64 (0), .sl true 0 [], .sl true 0 [], i64 (0)] : List PV).length = 1 * 4 ∧ ([i64 (0), .sl true 0 [], .sl true 0 [], i64 (0)] : List PV).all oneC = true ∧ (1 + a0_Ln) * 64 ≤ 140737488355328 ∧ 1 + a0_Ln ≤ 140737488355328 ∧ (1 = 0 ∨ 0 < a0_Ln)) ∧
        br (decide (a0_Kind = (18)))
        (Q (.agg [i64 (15), .sl true 2 [.s (.string (ByteArray.mk #[111, 107])), .s (.string (ByteArray.mk #[101, 114, 114, 111, 114]))], .sl a0_Lu a0_Ln a0_Lc, i64 (0)]) ⟨[(1, ⟨0, 4, ([i64 (0), .sl true 0 [], .sl true 0 [], i64 (0)] ++ a0_Lc)⟩), (0, ⟨x3_2, 4, x3_4⟩)], 2⟩)
        (Q (.agg [i64 (15), .sl true 2 [.s (.string (ByteArray.mk #[110, 111, 110, 101])), .s (.string (ByteArray.mk #[115, 111, 109, 101]))], .bsl 1 0 0 (1 + a0_Ln), i64 (0)]) ⟨[(1, ⟨0, 4, ([i64 (0), .sl true 0 [], .sl true 0 [], i64 (0)] ++ a0_Lc)⟩), (0, ⟨x3_2, 4, x3_4⟩)], 2⟩))
      (br (decide (a0_Kind = (18)))
        (Q (.agg [i64 (15), .sl true 2 [.s (.string (ByteArray.mk #[111, 107])), .s (.string (ByteArray.mk #[101, 114, 114, 111, 114]))], .sl a0_Lu a0_Ln a0_Lc, i64 (0)]) ⟨[(0, ⟨x3_2, 4, x3_4⟩)], 1⟩)
        (Q (.agg [i64 (15), .sl a0_Namesu a0_Namesn a0_Namesc, .bsl 0 x3_2 0 x3_3, i64 (0)]) ⟨[(0, ⟨x3_2, 4, x3_4⟩)], 1⟩)))) :
  L_scarfref13_Plain_3 n (m + 1) a0_Kind a0_Namesu a0_Namesn a0_Namesc a0_Lu a0_Ln a0_Lc a0_R x3_0 x3_1 x3_2 x3_3 x3_4 Q := by
  unfold L_scarfref13_Plain_3
  exact Ends_eq (asks := asks_scarfref13_Plain) (by kernel_rfl) h
theorem lp_scarfref13_Plain_4 (n m : Nat) (a0_Kind : Int) (a0_Namesu : Bool) (a0_Namesn : Nat) (a0_Namesc : List PV) (a0_Lu : Bool) (a0_Ln : Nat) (a0_Lc : List PV) (a0_R : Int) (x4_0 : Int) (x4_1 : List PV) (x4_2 : Nat) (x4_3 : List PV) (Q : PV → Store → Prop)
  (h :
    br (decide ((0) < ((a0_Namesn : Nat) : Int)))
    ((([i64 (0), .sl true 0 [], .sl true 0 [], i64 (0)] : List PV).length = 1 * 4 ∧ ([i64 (0), .sl true 0 [], .sl true 0 [], i64 (0)] : List PV).all oneC = true ∧ true = true ∧ ([] : List PV).length = 0 * 4 ∧ ([] : List PV).all oneC = true ∧ (0 + 1) * 64 ≤ 140737488355328 ∧ 0 + 1 ≤ 140737488355328 ∧ (0 = 0 ∨ 0 < 1)) ∧
      L_scarfref13_Plain_5 n m a0_Kind a0_Namesu a0_Namesn a0_Namesc a0_Lu a0_Ln a0_Lc a0_R x4_0 (1) 0 1 [i64 (0), .sl true 0 [], .sl true 0 [], i64 (0)] x4_1 x4_2 x4_3 Q)
    (br (decide (a0_Kind = (17)))
      (((a0_Lc : List PV).length = a0_Ln * 4 ∧ (a0_Lc : List PV).all oneC = true ∧ true = true ∧ ([i64 (0), .sl true 0 [], .sl true 0 [], i64 (0)] : List PV).length = 1 * 4 ∧ ([i64 (0), .sl true 0 [], .sl true 0 [], i64 (0)] : List PV).all oneC = true ∧ (1 + a0_Ln) * 64 ≤ 140737488355328 ∧ 1 + a0_Ln ≤ 140737488355328 ∧ (1 = 0 ∨ 0 < a0_Ln)) ∧
        br (decide (a0_Kind = (18)))
        (Q (.agg [i64 (15), .sl true 2 [.s (.string (ByteArray.mk #[111, 107])), .s (.string (ByteArray.mk #[101, 114, 114, 111, 114]))], .sl a0_Lu a0_Ln a0_Lc, i64 (0)]) ⟨[(2, ⟨0, 4, ([i64 (0), .sl true 0 [], .sl true 0 [], i64 (0)] ++ a0_Lc)⟩), (1, ⟨x4_2, 4, x4_1⟩), (0, ⟨x4_2, 1, x4_3⟩)], 3⟩)
        (Q (.agg [i64 (15), .sl true 2 [.s (.string (ByteArray.mk #[110, 111, 110, 101])), .s (.string (ByteArray.mk #[115, 111, 109, 101]))], .bsl 2 0 0 (1 + a0_Ln), i64 (0)]) ⟨[(2, ⟨0, 4, ([i64 (0), .sl true 0 [], .sl true 0 [], i64 (0)] ++ a0_Lc)⟩), (1, ⟨x4_2, 4, x4_1⟩), (0, ⟨x4_2, 1, x4_3⟩)], 3⟩))
      (br (decide (a0_Kind = (18)))
        (Q (.agg [i64 (15), .sl true 2 [.s (.string (ByteArray.mk #[111, 107])), .s (.string (ByteArray.mk #[101, 114, 114, 111, 114]))], .sl a0_Lu a0_Ln a0_Lc, i64 (0)]) ⟨[(1, ⟨x4_2, 4, x4_1⟩), (0, ⟨x4_2, 1, x4_3⟩)], 2⟩)
        (Q (.agg [i64 (15), .sl a0_Namesu a0_Namesn a0_Namesc, .sl true 0 [], i64 (0)]) ⟨[(1, ⟨x4_2, 4, x4_1⟩), (0, ⟨x4_2, 1, x4_3⟩)], 2⟩)))) :
  L_scarfref13_Plain_4 n (m + 1) a0_Kind a0_Namesu a0_Namesn a0_Namesc a0_Lu a0_Ln a0_Lc a0_R x4_0 x4_1 x4_2 x4_3 Q := by
  unfold L_scarfref13_Plain_4
  exact Ends_eq (asks := asks_scarfref13_Plain) (by kernel_rfl) h
theorem lp_scarfref13_Plain_5 (n m : Nat) (a0_Kind : Int) (a0_Namesu : Bool) (a0_Namesn : Nat) (a0_Namesc : List PV) (a0_Lu : Bool) (a0_Ln : Nat) (a0_Lc : List PV) (a0_R : Int) (x5_0 : Int) (x5_1 : Int) (x5_2 : Nat) (x5_3 : Nat) (x5_4 : List PV) (x5_5 : List PV) (x5_6 : Nat) (x5_7 : List PV) (Q : PV → Store → Prop)
  (h :
    br (decide (x5_1 < ((a0_Namesn : Nat) : Int)))
    ((([i64 (0), .sl true 0 [], .sl true 0 [], i64 (0)] : List PV).length = 1 * 4 ∧ ([i64 (0), .sl true 0 [], .sl true 0 [], i64 (0)] : List PV).all oneC = true ∧ x5_2 = x5_2 ∧ 0 = 0 ∧ 4 = 4 ∧ x5_3 * 4 ≤ (x5_4 : List PV).length ∧ ((List.take (x5_3 * 4) x5_4) : List PV).all oneC = true ∧ (x5_3 + 1) * 64 ≤ 140737488355328 ∧ x5_3 + 1 ≤ 140737488355328) ∧
      L_scarfref13_Plain_5 n m a0_Kind a0_Namesu a0_Namesn a0_Namesc a0_Lu a0_Ln a0_Lc a0_R x5_0 (IntKind.i64.wrap (x5_1 + (1))) (x5_2 + 1) (x5_3 + 1) ((List.take (x5_3 * 4) x5_4) ++ [i64 (0), .sl true 0 [], .sl true 0 [], i64 (0)]) x5_5 x5_6 x5_7 Q)
    (br (decide (a0_Kind = (17)))
      (((a0_Lc : List PV).length = a0_Ln * 4 ∧ (a0_Lc : List PV).all oneC = true ∧ true = true ∧ ([i64 (0), .sl true 0 [], .sl true 0 [], i64 (0)] : List PV).length = 1 * 4 ∧ ([i64 (0), .sl true 0 [], .sl true 0 [], i64 (0)] : List PV).all oneC = true ∧ (1 + a0_Ln) * 64 ≤ 140737488355328 ∧ 1 + a0_Ln ≤ 140737488355328 ∧ (1 = 0 ∨ 0 < a0_Ln)) ∧
        br (decide (a0_Kind = (18)))
        (Q (.agg [i64 (15), .sl true 2 [.s (.string (ByteArray.mk #[111, 107])), .s (.string (ByteArray.mk #[101, 114, 114, 111, 114]))], .sl a0_Lu a0_Ln a0_Lc, i64 (0)]) ⟨[(3, ⟨0, 4, ([i64 (0), .sl true 0 [], .sl true 0 [], i64 (0)] ++ a0_Lc)⟩), (2, ⟨x5_2, 4, x5_4⟩), (1, ⟨x5_6, 4, x5_5⟩), (0, ⟨x5_6, 1, x5_7⟩)], 4⟩)
        (Q (.agg [i64 (15), .sl true 2 [.s (.string (ByteArray.mk #[110, 111, 110, 101])), .s (.string (ByteArray.mk #[115, 111, 109, 101]))], .bsl 3 0 0 (1 + a0_Ln), i64 (0)]) ⟨[(3, ⟨0, 4, ([i64 (0), .sl true 0 [], .sl true 0 [], i64 (0)] ++ a0_Lc)⟩), (2, ⟨x5_2, 4, x5_4⟩), (1, ⟨x5_6, 4, x5_5⟩), (0, ⟨x5_6, 1, x5_7⟩)], 4⟩))
      (br (decide (a0_Kind = (18)))
        (Q (.agg [i64 (15), .sl true 2 [.s (.string (ByteArray.mk #[111, 107])), .s (.string (ByteArray.mk #[101, 114, 114, 111, 114]))], .sl a0_Lu a0_Ln a0_Lc, i64 (0)]) ⟨[(2, ⟨x5_2, 4, x5_4⟩), (1, ⟨x5_6, 4, x5_5⟩), (0, ⟨x5_6, 1, x5_7⟩)], 3⟩)
        (Q (.agg [i64 (15), .sl a0_Namesu a0_Namesn a0_Namesc, .bsl 2 x5_2 0 x5_3, i64 (0)]) ⟨[(2, ⟨x5_2, 4, x5_4⟩), (1, ⟨x5_6, 4, x5_5⟩), (0, ⟨x5_6, 1, x5_7⟩)], 3⟩)))) :
  L_scarfref13_Plain_5 n (m + 1) a0_Kind a0_Namesu a0_Namesn a0_Namesc a0_Lu a0_Ln a0_Lc a0_R x5_0 x5_1 x5_2 x5_3 x5_4 x5_5 x5_6 x5_7 Q := by
  unfold L_scarfref13_Plain_5
  exact Ends_eq (asks := asks_scarfref13_Plain) (by kernel_rfl) h
/-! ### slices.IndexFunc[[]int,int] -/
def asks_slices_IndexFunc_sl_int_int : Asks := [(4003, .cond), (4004, .told (.sh (.one (.int .i64)))), (4005, .told (.sh (.one (.bool))))]
@[irreducible] noncomputable def L_slices_IndexFunc_sl_int_int_0 (n m : Nat) (a0u : Bool) (a0n : Nat) (a0c : List PV) (x0_0 : Int) (Q : PV → Store → Prop) : Prop := Pvm.Ends cfg (cl n) f_slices_IndexFunc_sl_int_int n (codeAt (bodyOf Tryz.f48) [1, 0, 1, 0]) m
  { regs := [(0, .v (.sl a0u a0n a0c)), (1, .v (.fn (.func f_value_parts_1) [] [])), (7, .v (i64 ((a0n : Nat) : Int))), (8, .v (i64 x0_0))], st := ⟨[], ⟨[], 0⟩⟩, nt := 19 }
  (contC cfg (cl n) f_slices_IndexFunc_sl_int_int n asks_slices_IndexFunc_sl_int_int (bodyOf Tryz.f48) [1, 0, 1, 0] [] (retK cfg Tryz.f48 Q))
theorem vc_slices_IndexFunc_sl_int_int (n : Nat) (a0u : Bool) (a0n : Nat) (a0c : List PV) (Q : PV → Store → Prop)
  (h :
    L_slices_IndexFunc_sl_int_int_0 n n a0u a0n a0c (0) Q) :
  Ret cfg (n + 1) f_slices_IndexFunc_sl_int_int [.sl a0u a0n a0c, .fn (.func f_value_parts_1) [] []] ⟨[], 0⟩ Q :=
  vcRun_eq (fn := Tryz.f48) (asks := asks_slices_IndexFunc_sl_int_int) (by kernel_rfl) (by kernel_rfl) (by kernel_rfl) (by kernel_rfl) (by kernel_rfl) h
theorem lp_slices_IndexFunc_sl_int_int_0 (n m : Nat) (a0u : Bool) (a0n : Nat) (a0c : List PV) (x0_0 : Int) (Q : PV → Store → Prop)
  (h :
    br (decide (x0_0 < ((a0n : Nat) : Int)))
    (((0 : Int) ≤ x0_0 ∧ x0_0 < ((a0n : Nat) : Int) ∧ Int.toNat x0_0 * 1 < (a0c : List PV).length) ∧
      ∃ (v1 : Int), (ld prog t_int a0c (Int.toNat x0_0 * 1) (i64 v1)) ∧
      ∃ (v2 : Bool), (cl n f_value_parts_1 [i64 v1] ⟨[], 0⟩ = some (.s (.bool v2), ⟨[], 0⟩)) ∧
      br v2
      (Q (i64 x0_0) ⟨[], 0⟩)
      (L_slices_IndexFunc_sl_int_int_0 n m a0u a0n a0c (IntKind.i64.wrap (x0_0 + (1))) Q))
    (Q (i64 (-1)) ⟨[], 0⟩)) :
  L_slices_IndexFunc_sl_int_int_0 n (m + 1) a0u a0n a0c x0_0 Q := by
  unfold L_slices_IndexFunc_sl_int_int_0
  exact Ends_eq (asks := asks_slices_IndexFunc_sl_int_int) (by kernel_rfl) h
/-! ### scarf/ctype.within -/
def asks_ctype_within : Asks := [(25006, .told (.sh (.one (.bool)))), (27006, .told (.sh (.one (.bool)))), (29006, .told (.sh (.one (.bool)))), (38000, .cond), (38001, .told (.sh (.agg [.int .i64, .sl, .sl, .int .i64]))), (39010, .told (.sh (.one (.bool)))), (40003, .told (.sh (.one (.int .i64))))]
@[irreducible] noncomputable def L_ctype_within_0 (n m : Nat) (a0_Kind : Int) (a0_Namesu : Bool) (a0_Namesn : Nat) (a0_Namesc : List PV) (a0_Lu : Bool) (a0_Ln : Nat) (a0_Lc : List PV) (a0_R : Int) (a1 : Int) (x0_0 : Int) (x0_1 : Int) (Q : PV → Store → Prop) : Prop := Pvm.Ends cfg (cl n) f_ctype_within n (codeAt (bodyOf Tryz.f50) [1, 1, 1, 1, 1, 1, 0, 1, 0]) m
  { regs := [(1, .v (i64 a1)), (2, .loc 2 0), (7, .v (i64 x0_0)), (161, .v (.sl a0_Lu a0_Ln a0_Lc)), (162, .v (i64 ((a0_Ln : Nat) : Int))), (163, .v (i64 x0_1))], st := ⟨[(2, [i64 a0_Kind, .sl a0_Namesu a0_Namesn a0_Namesc, .sl a0_Lu a0_Ln a0_Lc, i64 a0_R])], ⟨[], 0⟩⟩, nt := 194 }
  (contC cfg (cl n) f_ctype_within n asks_ctype_within (bodyOf Tryz.f50) [1, 1, 1, 1, 1, 1, 0, 1, 0] [] (retK cfg Tryz.f50 Q))
theorem vc_ctype_within (n : Nat) (a0_Kind : Int) (a0_Namesu : Bool) (a0_Namesn : Nat) (a0_Namesc : List PV) (a0_Lu : Bool) (a0_Ln : Nat) (a0_Lc : List PV) (a0_R : Int) (a1 : Int) (Q : PV → Store → Prop)
  (h :
    br (decide (((a0_Namesn : Nat) : Int) = (0)))
    (br (decide (a0_Kind = (1)))
      (br (decide (a0_R = (0)))
        (br (!(decide (((a0_Ln : Nat) : Int) = (0))))
          (Q (i64 (0)) ⟨[], 0⟩)
          (br (decide (a1 > (16)))
            (Q (i64 (0)) ⟨[], 0⟩)
            (L_ctype_within_0 n n a0_Kind a0_Namesu a0_Namesn a0_Namesc a0_Lu a0_Ln a0_Lc a0_R a1 (1) (0) Q)))
        (Q (i64 (0)) ⟨[], 0⟩))
      (br (decide (a0_Kind = (2)))
        (br (decide (a0_R = (0)))
          (br (!(decide (((a0_Ln : Nat) : Int) = (0))))
            (Q (i64 (0)) ⟨[], 0⟩)
            (br (decide (a1 > (16)))
              (Q (i64 (0)) ⟨[], 0⟩)
              (L_ctype_within_0 n n a0_Kind a0_Namesu a0_Namesn a0_Namesc a0_Lu a0_Ln a0_Lc a0_R a1 (1) (0) Q)))
          (Q (i64 (0)) ⟨[], 0⟩))
        (br (decide (a0_Kind = (3)))
          (br (decide (a0_R = (0)))
            (br (!(decide (((a0_Ln : Nat) : Int) = (0))))
              (Q (i64 (0)) ⟨[], 0⟩)
              (br (decide (a1 > (16)))
                (Q (i64 (0)) ⟨[], 0⟩)
                (L_ctype_within_0 n n a0_Kind a0_Namesu a0_Namesn a0_Namesc a0_Lu a0_Ln a0_Lc a0_R a1 (1) (0) Q)))
            (Q (i64 (0)) ⟨[], 0⟩))
          (br (decide (a0_Kind = (4)))
            (br (decide (a0_R = (0)))
              (br (!(decide (((a0_Ln : Nat) : Int) = (0))))
                (Q (i64 (0)) ⟨[], 0⟩)
                (br (decide (a1 > (16)))
                  (Q (i64 (0)) ⟨[], 0⟩)
                  (L_ctype_within_0 n n a0_Kind a0_Namesu a0_Namesn a0_Namesc a0_Lu a0_Ln a0_Lc a0_R a1 (1) (0) Q)))
              (Q (i64 (0)) ⟨[], 0⟩))
            (br (decide (a0_Kind = (5)))
              (br (decide (a0_R = (0)))
                (br (!(decide (((a0_Ln : Nat) : Int) = (0))))
                  (Q (i64 (0)) ⟨[], 0⟩)
                  (br (decide (a1 > (16)))
                    (Q (i64 (0)) ⟨[], 0⟩)
                    (L_ctype_within_0 n n a0_Kind a0_Namesu a0_Namesn a0_Namesc a0_Lu a0_Ln a0_Lc a0_R a1 (1) (0) Q)))
                (Q (i64 (0)) ⟨[], 0⟩))
              (br (decide (a0_Kind = (6)))
                (br (decide (a0_R = (0)))
                  (br (!(decide (((a0_Ln : Nat) : Int) = (0))))
                    (Q (i64 (0)) ⟨[], 0⟩)
                    (br (decide (a1 > (16)))
                      (Q (i64 (0)) ⟨[], 0⟩)
                      (L_ctype_within_0 n n a0_Kind a0_Namesu a0_Namesn a0_Namesc a0_Lu a0_Ln a0_Lc a0_R a1 (1) (0) Q)))
                  (Q (i64 (0)) ⟨[], 0⟩))
                (br (decide (a0_Kind = (7)))
                  (br (decide (a0_R = (0)))
                    (br (!(decide (((a0_Ln : Nat) : Int) = (0))))
                      (Q (i64 (0)) ⟨[], 0⟩)
                      (br (decide (a1 > (16)))
                        (Q (i64 (0)) ⟨[], 0⟩)
                        (L_ctype_within_0 n n a0_Kind a0_Namesu a0_Namesn a0_Namesc a0_Lu a0_Ln a0_Lc a0_R a1 (1) (0) Q)))
                    (Q (i64 (0)) ⟨[], 0⟩))
                  (br (decide (a0_Kind = (8)))
                    (br (decide (a0_R = (0)))
                      (br (!(decide (((a0_Ln : Nat) : Int) = (0))))
                        (Q (i64 (0)) ⟨[], 0⟩)
                        (br (decide (a1 > (16)))
                          (Q (i64 (0)) ⟨[], 0⟩)
                          (L_ctype_within_0 n n a0_Kind a0_Namesu a0_Namesn a0_Namesc a0_Lu a0_Ln a0_Lc a0_R a1 (1) (0) Q)))
                      (Q (i64 (0)) ⟨[], 0⟩))
                    (br (decide (a0_Kind = (9)))
                      (br (decide (a0_R = (0)))
                        (br (!(decide (((a0_Ln : Nat) : Int) = (0))))
                          (Q (i64 (0)) ⟨[], 0⟩)
                          (br (decide (a1 > (16)))
                            (Q (i64 (0)) ⟨[], 0⟩)
                            (L_ctype_within_0 n n a0_Kind a0_Namesu a0_Namesn a0_Namesc a0_Lu a0_Ln a0_Lc a0_R a1 (1) (0) Q)))
                        (Q (i64 (0)) ⟨[], 0⟩))
                      (br (decide (a0_Kind = (10)))
                        (br (decide (a0_R = (0)))
                          (br (!(decide (((a0_Ln : Nat) : Int) = (0))))
                            (Q (i64 (0)) ⟨[], 0⟩)
                            (br (decide (a1 > (16)))
                              (Q (i64 (0)) ⟨[], 0⟩)
                              (L_ctype_within_0 n n a0_Kind a0_Namesu a0_Namesn a0_Namesc a0_Lu a0_Ln a0_Lc a0_R a1 (1) (0) Q)))
                          (Q (i64 (0)) ⟨[], 0⟩))
                        (br (decide (a0_Kind = (11)))
                          (br (decide (a0_R = (0)))
                            (br (!(decide (((a0_Ln : Nat) : Int) = (0))))
                              (Q (i64 (0)) ⟨[], 0⟩)
                              (br (decide (a1 > (16)))
                                (Q (i64 (0)) ⟨[], 0⟩)
                                (L_ctype_within_0 n n a0_Kind a0_Namesu a0_Namesn a0_Namesc a0_Lu a0_Ln a0_Lc a0_R a1 (1) (0) Q)))
                            (Q (i64 (0)) ⟨[], 0⟩))
                          (br (decide (a0_Kind = (12)))
                            (br (decide (a0_R = (0)))
                              (br (!(decide (((a0_Ln : Nat) : Int) = (1))))
                                (Q (i64 (0)) ⟨[], 0⟩)
                                (br (decide (a1 > (16)))
                                  (Q (i64 (0)) ⟨[], 0⟩)
                                  (L_ctype_within_0 n n a0_Kind a0_Namesu a0_Namesn a0_Namesc a0_Lu a0_Ln a0_Lc a0_R a1 (1) (0) Q)))
                              (Q (i64 (0)) ⟨[], 0⟩))
                            (br (decide (a0_Kind = (17)))
                              (br (decide (a0_R = (0)))
                                (br (!(decide (((a0_Ln : Nat) : Int) = (1))))
                                  (Q (i64 (0)) ⟨[], 0⟩)
                                  (br (decide (a1 > (16)))
                                    (Q (i64 (0)) ⟨[], 0⟩)
                                    (L_ctype_within_0 n n a0_Kind a0_Namesu a0_Namesn a0_Namesc a0_Lu a0_Ln a0_Lc a0_R a1 (1) (0) Q)))
                                (Q (i64 (0)) ⟨[], 0⟩))
                              (br (decide (a0_Kind = (14)))
                                (br (decide (a0_R = (0)))
                                  (br (decide (((a0_Ln : Nat) : Int) > (0)))
                                    (br (!(decide (((a0_Ln : Nat) : Int) ≤ (64))))
                                      (Q (i64 (0)) ⟨[], 0⟩)
                                      (br (decide (a1 > (16)))
                                        (Q (i64 (0)) ⟨[], 0⟩)
                                        (L_ctype_within_0 n n a0_Kind a0_Namesu a0_Namesn a0_Namesc a0_Lu a0_Ln a0_Lc a0_R a1 (1) (0) Q)))
                                    (Q (i64 (0)) ⟨[], 0⟩))
                                  (Q (i64 (0)) ⟨[], 0⟩))
                                (br (decide (a0_Kind = (18)))
                                  (br (decide (a0_R = (0)))
                                    (br (!(decide (((a0_Ln : Nat) : Int) = (2))))
                                      (Q (i64 (0)) ⟨[], 0⟩)
                                      (br (decide (a1 > (16)))
                                        (Q (i64 (0)) ⟨[], 0⟩)
                                        (L_ctype_within_0 n n a0_Kind a0_Namesu a0_Namesn a0_Namesc a0_Lu a0_Ln a0_Lc a0_R a1 (1) (0) Q)))
                                    (Q (i64 (0)) ⟨[], 0⟩))
                                  (br (decide (a0_Kind = (13)))
                                    (br (decide (a0_R = (0)))
                                      (∃ (v1 : Bool), (cl n f_ctype_distinct [.sl a0_Namesu a0_Namesn a0_Namesc] ⟨[], 0⟩ = some (.s (.bool v1), ⟨[], 0⟩)) ∧
                                        br v1
                                        (br (!(decide (((a0_Ln : Nat) : Int) = ((a0_Namesn : Nat) : Int))))
                                          (Q (i64 (0)) ⟨[], 0⟩)
                                          (br (decide (a1 > (16)))
                                            (Q (i64 (0)) ⟨[], 0⟩)
                                            (L_ctype_within_0 n n a0_Kind a0_Namesu a0_Namesn a0_Namesc a0_Lu a0_Ln a0_Lc a0_R a1 (1) (0) Q)))
                                        (Q (i64 (0)) ⟨[], 0⟩))
                                      (Q (i64 (0)) ⟨[], 0⟩))
                                    (br (decide (a0_Kind = (15)))
                                      (br (decide (a0_R = (0)))
                                        (∃ (v2 : Bool), (cl n f_ctype_distinct [.sl a0_Namesu a0_Namesn a0_Namesc] ⟨[], 0⟩ = some (.s (.bool v2), ⟨[], 0⟩)) ∧
                                          br v2
                                          (br (!(decide (((a0_Ln : Nat) : Int) = ((a0_Namesn : Nat) : Int))))
                                            (Q (i64 (0)) ⟨[], 0⟩)
                                            (br (decide (a1 > (16)))
                                              (Q (i64 (0)) ⟨[], 0⟩)
                                              (L_ctype_within_0 n n a0_Kind a0_Namesu a0_Namesn a0_Namesc a0_Lu a0_Ln a0_Lc a0_R a1 (1) (0) Q)))
                                          (Q (i64 (0)) ⟨[], 0⟩))
                                        (Q (i64 (0)) ⟨[], 0⟩))
                                      (br (decide (a0_Kind = (16)))
                                        (br (decide (a0_R = (0)))
                                          (∃ (v3 : Bool), (cl n f_ctype_distinct [.sl a0_Namesu a0_Namesn a0_Namesc] ⟨[], 0⟩ = some (.s (.bool v3), ⟨[], 0⟩)) ∧
                                            br v3
                                            (br (!(decide (((a0_Ln : Nat) : Int) = (0))))
                                              (Q (i64 (0)) ⟨[], 0⟩)
                                              (br (decide (a1 > (16)))
                                                (Q (i64 (0)) ⟨[], 0⟩)
                                                (L_ctype_within_0 n n a0_Kind a0_Namesu a0_Namesn a0_Namesc a0_Lu a0_Ln a0_Lc a0_R a1 (1) (0) Q)))
                                            (Q (i64 (0)) ⟨[], 0⟩))
                                          (Q (i64 (0)) ⟨[], 0⟩))
                                        (br (decide (a0_Kind = (19)))
                                          (br (decide (a0_R = (0)))
                                            (∃ (v4 : Bool), (cl n f_ctype_distinct [.sl a0_Namesu a0_Namesn a0_Namesc] ⟨[], 0⟩ = some (.s (.bool v4), ⟨[], 0⟩)) ∧
                                              br v4
                                              (br (decide (((a0_Ln : Nat) : Int) = (0)))
                                                (br (!(decide (((a0_Namesn : Nat) : Int) ≤ (32))))
                                                  (Q (i64 (0)) ⟨[], 0⟩)
                                                  (br (decide (a1 > (16)))
                                                    (Q (i64 (0)) ⟨[], 0⟩)
                                                    (L_ctype_within_0 n n a0_Kind a0_Namesu a0_Namesn a0_Namesc a0_Lu a0_Ln a0_Lc a0_R a1 (1) (0) Q)))
                                                (Q (i64 (0)) ⟨[], 0⟩))
                                              (Q (i64 (0)) ⟨[], 0⟩))
                                            (Q (i64 (0)) ⟨[], 0⟩))
                                          (br (decide (a0_Kind = (20)))
                                            (br (decide ((IntKind.i64.wrap (((a0_Namesn : Nat) : Int) + ((a0_Ln : Nat) : Int))) = (0)))
                                              (br (decide (a0_R ≥ (0)))
                                                (br (!(decide (a0_R ≤ (1048576))))
                                                  (Q (i64 (0)) ⟨[], 0⟩)
                                                  (br (decide (a1 > (16)))
                                                    (Q (i64 (0)) ⟨[], 0⟩)
                                                    (L_ctype_within_0 n n a0_Kind a0_Namesu a0_Namesn a0_Namesc a0_Lu a0_Ln a0_Lc a0_R a1 (1) (0) Q)))
                                                (Q (i64 (0)) ⟨[], 0⟩))
                                              (Q (i64 (0)) ⟨[], 0⟩))
                                            (br (decide (a0_Kind = (21)))
                                              (br (decide ((IntKind.i64.wrap (((a0_Namesn : Nat) : Int) + ((a0_Ln : Nat) : Int))) = (0)))
                                                (br (decide (a0_R ≥ (0)))
                                                  (br (!(decide (a0_R ≤ (1048576))))
                                                    (Q (i64 (0)) ⟨[], 0⟩)
                                                    (br (decide (a1 > (16)))
                                                      (Q (i64 (0)) ⟨[], 0⟩)
                                                      (L_ctype_within_0 n n a0_Kind a0_Namesu a0_Namesn a0_Namesc a0_Lu a0_Ln a0_Lc a0_R a1 (1) (0) Q)))
                                                  (Q (i64 (0)) ⟨[], 0⟩))
                                                (Q (i64 (0)) ⟨[], 0⟩))
                                              (Q (i64 (0)) ⟨[], 0⟩))))))))))))))))))))))
    (br (decide (a0_Kind = (1)))
      (Q (i64 (0)) ⟨[], 0⟩)
      (br (decide (a0_Kind = (2)))
        (Q (i64 (0)) ⟨[], 0⟩)
        (br (decide (a0_Kind = (3)))
          (Q (i64 (0)) ⟨[], 0⟩)
          (br (decide (a0_Kind = (4)))
            (Q (i64 (0)) ⟨[], 0⟩)
            (br (decide (a0_Kind = (5)))
              (Q (i64 (0)) ⟨[], 0⟩)
              (br (decide (a0_Kind = (6)))
                (Q (i64 (0)) ⟨[], 0⟩)
                (br (decide (a0_Kind = (7)))
                  (Q (i64 (0)) ⟨[], 0⟩)
                  (br (decide (a0_Kind = (8)))
                    (Q (i64 (0)) ⟨[], 0⟩)
                    (br (decide (a0_Kind = (9)))
                      (Q (i64 (0)) ⟨[], 0⟩)
                      (br (decide (a0_Kind = (10)))
                        (Q (i64 (0)) ⟨[], 0⟩)
                        (br (decide (a0_Kind = (11)))
                          (Q (i64 (0)) ⟨[], 0⟩)
                          (br (decide (a0_Kind = (12)))
                            (Q (i64 (0)) ⟨[], 0⟩)
                            (br (decide (a0_Kind = (17)))
                              (Q (i64 (0)) ⟨[], 0⟩)
                              (br (decide (a0_Kind = (14)))
                                (Q (i64 (0)) ⟨[], 0⟩)
                                (br (decide (a0_Kind = (18)))
                                  (Q (i64 (0)) ⟨[], 0⟩)
                                  (br (decide (a0_Kind = (13)))
                                    (br (decide (a0_R = (0)))
                                      (∃ (v5 : Bool), (cl n f_ctype_distinct [.sl a0_Namesu a0_Namesn a0_Namesc] ⟨[], 0⟩ = some (.s (.bool v5), ⟨[], 0⟩)) ∧
                                        br v5
                                        (br (!(decide (((a0_Ln : Nat) : Int) = ((a0_Namesn : Nat) : Int))))
                                          (Q (i64 (0)) ⟨[], 0⟩)
                                          (br (decide (a1 > (16)))
                                            (Q (i64 (0)) ⟨[], 0⟩)
                                            (L_ctype_within_0 n n a0_Kind a0_Namesu a0_Namesn a0_Namesc a0_Lu a0_Ln a0_Lc a0_R a1 (1) (0) Q)))
                                        (Q (i64 (0)) ⟨[], 0⟩))
                                      (Q (i64 (0)) ⟨[], 0⟩))
                                    (br (decide (a0_Kind = (15)))
                                      (br (decide (a0_R = (0)))
                                        (∃ (v6 : Bool), (cl n f_ctype_distinct [.sl a0_Namesu a0_Namesn a0_Namesc] ⟨[], 0⟩ = some (.s (.bool v6), ⟨[], 0⟩)) ∧
                                          br v6
                                          (br (!(decide (((a0_Ln : Nat) : Int) = ((a0_Namesn : Nat) : Int))))
                                            (Q (i64 (0)) ⟨[], 0⟩)
                                            (br (decide (a1 > (16)))
                                              (Q (i64 (0)) ⟨[], 0⟩)
                                              (L_ctype_within_0 n n a0_Kind a0_Namesu a0_Namesn a0_Namesc a0_Lu a0_Ln a0_Lc a0_R a1 (1) (0) Q)))
                                          (Q (i64 (0)) ⟨[], 0⟩))
                                        (Q (i64 (0)) ⟨[], 0⟩))
                                      (br (decide (a0_Kind = (16)))
                                        (br (decide (a0_R = (0)))
                                          (∃ (v7 : Bool), (cl n f_ctype_distinct [.sl a0_Namesu a0_Namesn a0_Namesc] ⟨[], 0⟩ = some (.s (.bool v7), ⟨[], 0⟩)) ∧
                                            br v7
                                            (br (!(decide (((a0_Ln : Nat) : Int) = (0))))
                                              (Q (i64 (0)) ⟨[], 0⟩)
                                              (br (decide (a1 > (16)))
                                                (Q (i64 (0)) ⟨[], 0⟩)
                                                (L_ctype_within_0 n n a0_Kind a0_Namesu a0_Namesn a0_Namesc a0_Lu a0_Ln a0_Lc a0_R a1 (1) (0) Q)))
                                            (Q (i64 (0)) ⟨[], 0⟩))
                                          (Q (i64 (0)) ⟨[], 0⟩))
                                        (br (decide (a0_Kind = (19)))
                                          (br (decide (a0_R = (0)))
                                            (∃ (v8 : Bool), (cl n f_ctype_distinct [.sl a0_Namesu a0_Namesn a0_Namesc] ⟨[], 0⟩ = some (.s (.bool v8), ⟨[], 0⟩)) ∧
                                              br v8
                                              (br (decide (((a0_Ln : Nat) : Int) = (0)))
                                                (br (!(decide (((a0_Namesn : Nat) : Int) ≤ (32))))
                                                  (Q (i64 (0)) ⟨[], 0⟩)
                                                  (br (decide (a1 > (16)))
                                                    (Q (i64 (0)) ⟨[], 0⟩)
                                                    (L_ctype_within_0 n n a0_Kind a0_Namesu a0_Namesn a0_Namesc a0_Lu a0_Ln a0_Lc a0_R a1 (1) (0) Q)))
                                                (Q (i64 (0)) ⟨[], 0⟩))
                                              (Q (i64 (0)) ⟨[], 0⟩))
                                            (Q (i64 (0)) ⟨[], 0⟩))
                                          (br (decide (a0_Kind = (20)))
                                            (br (decide ((IntKind.i64.wrap (((a0_Namesn : Nat) : Int) + ((a0_Ln : Nat) : Int))) = (0)))
                                              (br (decide (a0_R ≥ (0)))
                                                (br (!(decide (a0_R ≤ (1048576))))
                                                  (Q (i64 (0)) ⟨[], 0⟩)
                                                  (br (decide (a1 > (16)))
                                                    (Q (i64 (0)) ⟨[], 0⟩)
                                                    (L_ctype_within_0 n n a0_Kind a0_Namesu a0_Namesn a0_Namesc a0_Lu a0_Ln a0_Lc a0_R a1 (1) (0) Q)))
                                                (Q (i64 (0)) ⟨[], 0⟩))
                                              (Q (i64 (0)) ⟨[], 0⟩))
                                            (br (decide (a0_Kind = (21)))
                                              (br (decide ((IntKind.i64.wrap (((a0_Namesn : Nat) : Int) + ((a0_Ln : Nat) : Int))) = (0)))
                                                (br (decide (a0_R ≥ (0)))
                                                  (br (!(decide (a0_R ≤ (1048576))))
                                                    (Q (i64 (0)) ⟨[], 0⟩)
                                                    (br (decide (a1 > (16)))
                                                      (Q (i64 (0)) ⟨[], 0⟩)
                                                      (L_ctype_within_0 n n a0_Kind a0_Namesu a0_Namesn a0_Namesc a0_Lu a0_Ln a0_Lc a0_R a1 (1) (0) Q)))
                                                  (Q (i64 (0)) ⟨[], 0⟩))
                                                (Q (i64 (0)) ⟨[], 0⟩))
                                              (Q (i64 (0)) ⟨[], 0⟩))))))))))))))))))))))) :
  Ret cfg (n + 1) f_ctype_within [.agg [i64 a0_Kind, .sl a0_Namesu a0_Namesn a0_Namesc, .sl a0_Lu a0_Ln a0_Lc, i64 a0_R], i64 a1] ⟨[], 0⟩ Q :=
  vcRun_eq (fn := Tryz.f50) (asks := asks_ctype_within) (by kernel_rfl) (by kernel_rfl) (by kernel_rfl) (by kernel_rfl) (by kernel_rfl) h
theorem lp_ctype_within_0 (n m : Nat) (a0_Kind : Int) (a0_Namesu : Bool) (a0_Namesn : Nat) (a0_Namesc : List PV) (a0_Lu : Bool) (a0_Ln : Nat) (a0_Lc : List PV) (a0_R : Int) (a1 : Int) (x0_0 : Int) (x0_1 : Int) (Q : PV → Store → Prop)
  (h :
    br (decide (x0_1 < ((a0_Ln : Nat) : Int)))
    (((0 : Int) ≤ x0_1 ∧ x0_1 < ((a0_Ln : Nat) : Int) ∧ Int.toNat x0_1 * 4 < (a0_Lc : List PV).length) ∧
      ∃ (v1 : Int) (v2 : Bool) (v3 : Nat) (v4 : List PV) (v5 : Bool) (v6 : Nat) (v7 : List PV) (v8 : Int), (ld prog t_api_Type a0_Lc (Int.toNat x0_1 * 4) (.agg [i64 v1, .sl v2 v3 v4, .sl v5 v6 v7, i64 v8])) ∧
      br (decide (a0_Kind = (15)))
      (∃ (v9 : Bool), (cl n f_ctype_none [.agg [i64 v1, .sl v2 v3 v4, .sl v5 v6 v7, i64 v8]] ⟨[], 0⟩ = some (.s (.bool v9), ⟨[], 0⟩)) ∧
        br v9
        (L_ctype_within_0 n m a0_Kind a0_Namesu a0_Namesn a0_Namesc a0_Lu a0_Ln a0_Lc a0_R a1 x0_0 (IntKind.i64.wrap (x0_1 + (1))) Q)
        (∃ (v10 : Int), (cl n f_ctype_within [.agg [i64 v1, .sl v2 v3 v4, .sl v5 v6 v7, i64 v8], i64 (IntKind.i64.wrap (a1 + (1)))] ⟨[], 0⟩ = some (i64 v10, ⟨[], 0⟩)) ∧
          br (decide (v10 = (0)))
          (Q (i64 (0)) ⟨[], 0⟩)
          (br (decide ((IntKind.i64.wrap (x0_0 + v10)) > (500)))
            (Q (i64 (0)) ⟨[], 0⟩)
            (L_ctype_within_0 n m a0_Kind a0_Namesu a0_Namesn a0_Namesc a0_Lu a0_Ln a0_Lc a0_R a1 (IntKind.i64.wrap (x0_0 + v10)) (IntKind.i64.wrap (x0_1 + (1))) Q))))
      (br (decide (a0_Kind = (18)))
        (∃ (v11 : Bool), (cl n f_ctype_none [.agg [i64 v1, .sl v2 v3 v4, .sl v5 v6 v7, i64 v8]] ⟨[], 0⟩ = some (.s (.bool v11), ⟨[], 0⟩)) ∧
          br v11
          (L_ctype_within_0 n m a0_Kind a0_Namesu a0_Namesn a0_Namesc a0_Lu a0_Ln a0_Lc a0_R a1 x0_0 (IntKind.i64.wrap (x0_1 + (1))) Q)
          (∃ (v12 : Int), (cl n f_ctype_within [.agg [i64 v1, .sl v2 v3 v4, .sl v5 v6 v7, i64 v8], i64 (IntKind.i64.wrap (a1 + (1)))] ⟨[], 0⟩ = some (i64 v12, ⟨[], 0⟩)) ∧
            br (decide (v12 = (0)))
            (Q (i64 (0)) ⟨[], 0⟩)
            (br (decide ((IntKind.i64.wrap (x0_0 + v12)) > (500)))
              (Q (i64 (0)) ⟨[], 0⟩)
              (L_ctype_within_0 n m a0_Kind a0_Namesu a0_Namesn a0_Namesc a0_Lu a0_Ln a0_Lc a0_R a1 (IntKind.i64.wrap (x0_0 + v12)) (IntKind.i64.wrap (x0_1 + (1))) Q))))
        (∃ (v13 : Int), (cl n f_ctype_within [.agg [i64 v1, .sl v2 v3 v4, .sl v5 v6 v7, i64 v8], i64 (IntKind.i64.wrap (a1 + (1)))] ⟨[], 0⟩ = some (i64 v13, ⟨[], 0⟩)) ∧
          br (decide (v13 = (0)))
          (Q (i64 (0)) ⟨[], 0⟩)
          (br (decide ((IntKind.i64.wrap (x0_0 + v13)) > (500)))
            (Q (i64 (0)) ⟨[], 0⟩)
            (L_ctype_within_0 n m a0_Kind a0_Namesu a0_Namesn a0_Namesc a0_Lu a0_Ln a0_Lc a0_R a1 (IntKind.i64.wrap (x0_0 + v13)) (IntKind.i64.wrap (x0_1 + (1))) Q)))))
    (Q (i64 x0_0) ⟨[], 0⟩)) :
  L_ctype_within_0 n (m + 1) a0_Kind a0_Namesu a0_Namesn a0_Namesc a0_Lu a0_Ln a0_Lc a0_R a1 x0_0 x0_1 Q := by
  unfold L_ctype_within_0
  exact Ends_eq (asks := asks_ctype_within) (by kernel_rfl) h
/-! ### scarf/value.span -/
def asks_value_span : Asks := []
theorem vc_value_span (n : Nat) (a0 : Int) (Q : PV → Store → Prop)
  (h :
    br (decide (a0 = (1)))
    (Q (.tup [i64 (0), i64 (1), .s (.bool true)]) ⟨[], 0⟩)
    (br (decide (a0 = (2)))
      (Q (.tup [i64 (-128), i64 (127), .s (.bool true)]) ⟨[], 0⟩)
      (br (decide (a0 = (3)))
        (Q (.tup [i64 (0), i64 (255), .s (.bool true)]) ⟨[], 0⟩)
        (br (decide (a0 = (4)))
          (Q (.tup [i64 (-32768), i64 (32767), .s (.bool true)]) ⟨[], 0⟩)
          (br (decide (a0 = (5)))
            (Q (.tup [i64 (0), i64 (65535), .s (.bool true)]) ⟨[], 0⟩)
            (br (decide (a0 = (6)))
              (Q (.tup [i64 (-2147483648), i64 (2147483647), .s (.bool true)]) ⟨[], 0⟩)
              (br (decide (a0 = (7)))
                (Q (.tup [i64 (0), i64 (4294967295), .s (.bool true)]) ⟨[], 0⟩)
                (br (decide (a0 = (20)))
                  (Q (.tup [i64 (0), i64 (4294967295), .s (.bool true)]) ⟨[], 0⟩)
                  (br (decide (a0 = (21)))
                    (Q (.tup [i64 (0), i64 (4294967295), .s (.bool true)]) ⟨[], 0⟩)
                    (br (decide (a0 = (8)))
                      (Q (.tup [i64 (-9223372036854775808), i64 (9223372036854775807), .s (.bool true)]) ⟨[], 0⟩)
                      (br (decide (a0 = (9)))
                        (Q (.tup [i64 (-9223372036854775808), i64 (9223372036854775807), .s (.bool true)]) ⟨[], 0⟩)
                        (Q (.tup [i64 (0), i64 (0), .s (.bool false)]) ⟨[], 0⟩)))))))))))) :
  Ret cfg (n + 1) f_value_span [i64 a0] ⟨[], 0⟩ Q :=
  vcRun_eq (fn := Tryz.f51) (asks := asks_value_span) (by kernel_rfl) (by kernel_rfl) (by kernel_rfl) (by kernel_rfl) (by kernel_rfl) h
/-! ### scarf/utf.Scalar -/
def asks_utf_Scalar : Asks := []
theorem vc_utf_Scalar (n : Nat) (a0 : Int) (Q : PV → Store → Prop)
  (h :
    br (decide (a0 ≥ (0)))
    (br (decide (a0 < (55296)))
      (Q (.s (.bool true)) ⟨[], 0⟩)
      (br (decide (a0 > (57343)))
        (Q (.s (.bool (decide (a0 ≤ (1114111))))) ⟨[], 0⟩)
        (Q (.s (.bool false)) ⟨[], 0⟩)))
    (br (decide (a0 > (57343)))
      (Q (.s (.bool (decide (a0 ≤ (1114111))))) ⟨[], 0⟩)
      (Q (.s (.bool false)) ⟨[], 0⟩))) :
  Ret cfg (n + 1) f_utf_Scalar [i64 a0] ⟨[], 0⟩ Q :=
  vcRun_eq (fn := Tryz.f52) (asks := asks_utf_Scalar) (by kernel_rfl) (by kernel_rfl) (by kernel_rfl) (by kernel_rfl) (by kernel_rfl) h
/-! ### scarf/value.parts$1 -/
def asks_value_parts_1 : Asks := [(1001, .told (.sh (.one (.bool))))]
theorem vc_value_parts_1 (n : Nat) (a0 : Int) (Q : PV → Store → Prop)
  (h :
    ∃ (v1 : Bool), (cl n f_utf_Scalar [i64 a0] ⟨[], 0⟩ = some (.s (.bool v1), ⟨[], 0⟩)) ∧
    Q (.s (.bool (!v1))) ⟨[], 0⟩) :
  Ret cfg (n + 1) f_value_parts_1 [i64 a0] ⟨[], 0⟩ Q :=
  vcRun_eq (fn := Tryz.f53) (asks := asks_value_parts_1) (by kernel_rfl) (by kernel_rfl) (by kernel_rfl) (by kernel_rfl) (by kernel_rfl) h
/-! ### slices.Repeat[[]scarf/api.Type,scarf/api.Type] -/
def asks_slices_Repeat_sl_api_Type_api_Type : Asks := [(3005, .told (.tup [.one (.int .u64), .one (.int .u64)])), (6002, .cond), (7002, .cond), (9003, .cond), (9006, .cond), (9007, .cond)]
@[irreducible] noncomputable def L_slices_Repeat_sl_api_Type_api_Type_0 (n m : Nat) (x0_0 : Nat) (x0_1 : Int) (x0_2 : List PV) (Q : PV → Store → Prop) : Prop := Pvm.Ends cfg (cl n) f_slices_Repeat_sl_api_Type_api_Type n (codeAt (bodyOf Tryz.f54) [1, 1, 1, 1, 1, 1, 0, 0]) m
  { regs := [(7, .v (.bsl 0 0 0 x0_0)), (8, .v (i64 x0_1))], st := ⟨[], ⟨[(0, ⟨0, 4, x0_2⟩)], 1⟩⟩, nt := 48 }
  (contC cfg (cl n) f_slices_Repeat_sl_api_Type_api_Type n asks_slices_Repeat_sl_api_Type_api_Type (bodyOf Tryz.f54) [1, 1, 1, 1, 1, 1, 0, 0] [] (retK cfg Tryz.f54 Q))
theorem vc_slices_Repeat_sl_api_Type_api_Type (n : Nat) (a0u : Bool) (a0n : Nat) (a0c : List PV) (a1 : Int) (Q : PV → Store → Prop)
  (h :
    br (decide (a1 < (0)))
    (False)
    (∃ (v1 : Int) (v2 : Int), (cl n f_math_bits_Mul [.s (.int .u64 (IntKind.u64.wrap ((a0n : Nat) : Int))), .s (.int .u64 (IntKind.u64.wrap a1))] ⟨[], 0⟩ = some (.tup [.s (.int .u64 v1), .s (.int .u64 v2)], ⟨[], 0⟩)) ∧
      br (decide (v1 > (0)))
      (False)
      (br (decide (v2 > (9223372036854775807)))
        (False)
        (((0 : Int) ≤ (IntKind.i64.wrap v2) ∧ (IntKind.i64.wrap v2) ≤ (IntKind.i64.wrap v2) ∧ (IntKind.i64.wrap v2) * 64 ≤ 140737488355328 ∧ (IntKind.i64.wrap v2) ≤ 140737488355328) ∧
          ((a0c : List PV).length = a0n * 4 ∧ 0 = 0 ∧ 4 = 4 ∧ 0 + (Int.toNat (IntKind.i64.wrap v2)) * 4 ≤ ((rep (Int.toNat (IntKind.i64.wrap v2)) [i64 (0), .sl true 0 [], .sl true 0 [], i64 (0)]) : List PV).length ∧ (a0c : List PV).all oneC = true) ∧
          L_slices_Repeat_sl_api_Type_api_Type_0 n n (Int.toNat (IntKind.i64.wrap v2)) (((min a0n (Int.toNat (IntKind.i64.wrap v2))) : Nat) : Int) (splice (rep (Int.toNat (IntKind.i64.wrap v2)) [i64 (0), .sl true 0 [], .sl true 0 [], i64 (0)]) 0 (List.take ((min a0n (Int.toNat (IntKind.i64.wrap v2))) * 4) a0c)) Q)))) :
  Ret cfg (n + 1) f_slices_Repeat_sl_api_Type_api_Type [.sl a0u a0n a0c, i64 a1] ⟨[], 0⟩ Q :=
  vcRun_eq (fn := Tryz.f54) (asks := asks_slices_Repeat_sl_api_Type_api_Type) (by kernel_rfl) (by kernel_rfl) (by kernel_rfl) (by kernel_rfl) (by kernel_rfl) h
theorem lp_slices_Repeat_sl_api_Type_api_Type_0 (n m : Nat) (x0_0 : Nat) (x0_1 : Int) (x0_2 : List PV) (Q : PV → Store → Prop)
  (h :
    br (decide (x0_1 < ((x0_0 : Nat) : Int)))
    (((0 : Int) ≤ x0_1 ∧ x0_0 = x0_0 ∧ (Int.toNat x0_1) ≤ x0_0 ∧ x0_0 ≤ x0_0 ∧ 0 = 0 ∧ 4 = 4 ∧ ((Int.toNat x0_1) < x0_0 ∨ (Int.toNat x0_1) = 0)) ∧
      (0 = 0 ∧ (0 : Int) ≤ x0_1 ∧ 0 ≤ (Int.toNat x0_1) ∧ (Int.toNat x0_1) ≤ x0_0 ∧ 0 = 0 ∧ 4 = 4 ∧ (0 < (Int.toNat x0_1) ∨ 0 = 0)) ∧
      ((0 = 0 ∧ (0 + 0 * 4) + ((Int.toNat x0_1) - 0) * 4 ≤ (x0_2 : List PV).length) ∧ 0 = 0 ∧ 4 = 4 ∧ (0 + (Int.toNat x0_1) * 4) + (x0_0 - (Int.toNat x0_1)) * 4 ≤ (x0_2 : List PV).length ∧ (((List.drop (0 + 0 * 4) x0_2).take (((Int.toNat x0_1) - 0) * 4)) : List PV).all oneC = true) ∧
      L_slices_Repeat_sl_api_Type_api_Type_0 n m x0_0 (IntKind.i64.wrap (x0_1 + (((min ((Int.toNat x0_1) - 0) (x0_0 - (Int.toNat x0_1))) : Nat) : Int))) (splice x0_2 (0 + (Int.toNat x0_1) * 4) (List.take ((min ((Int.toNat x0_1) - 0) (x0_0 - (Int.toNat x0_1))) * 4) ((List.drop (0 + 0 * 4) x0_2).take (((Int.toNat x0_1) - 0) * 4)))) Q)
    (Q (.bsl 0 0 0 x0_0) ⟨[(0, ⟨0, 4, x0_2⟩)], 1⟩)) :
  L_slices_Repeat_sl_api_Type_api_Type_0 n (m + 1) x0_0 x0_1 x0_2 Q := by
  unfold L_slices_Repeat_sl_api_Type_api_Type_0
  exact Ends_eq (asks := asks_slices_Repeat_sl_api_Type_api_Type) (by kernel_rfl) h
/-! ### scarf/ctype.Plain -/
def asks_ctype_Plain : Asks := [(6001, .cond), (6002, .told (.sh (.agg [.int .i64, .sl, .sl, .int .i64]))), (7003, .told (.sh (.one (.str)))), (7005, .cond), (7010, .cond), (11002, .told (.sh (.one (.sl)))), (11006, .cond), (13004, .cond), (15003, .told (.sh (.one (.sl))))]
@[irreducible] noncomputable def L_ctype_Plain_0 (n m : Nat) (a0_Lu : Bool) (a0_Ln : Nat) (a0_Lc : List PV) (Q : PV → Store → Prop) : Prop := Pvm.Ends cfg (cl n) f_ctype_Plain n (codeAt (bodyOf Tryz.f55) [1, 0, 1, 0, 1, 0, 1, 0, 1, 0]) m
  { regs := [(2, .loc 2 0), (3, .loc 3 0), (12, .v (.sl a0_Lu a0_Ln a0_Lc)), (13, .v (i64 ((a0_Ln : Nat) : Int))), (14, .v (i64 (0)))], st := ⟨[(2, [i64 (0), .sl true 0 [], .sl true 0 [], i64 (0)]), (3, [i64 (13), .sl true 0 [], .sl true 0 [], i64 (0)])], ⟨[], 0⟩⟩, nt := 60 }
  (contC cfg (cl n) f_ctype_Plain n asks_ctype_Plain (bodyOf Tryz.f55) [1, 0, 1, 0, 1, 0, 1, 0, 1, 0] [] (retK cfg Tryz.f55 Q))
@[irreducible] noncomputable def L_ctype_Plain_1 (n m : Nat) (a0_Lu : Bool) (a0_Ln : Nat) (a0_Lc : List PV) (x1_0 : Int) (x1_1 : Nat) (x1_2 : Nat) (x1_3 : List PV) (x1_4 : List PV) (Q : PV → Store → Prop) : Prop := Pvm.Ends cfg (cl n) f_ctype_Plain n (codeAt (bodyOf Tryz.f55) [1, 0, 1, 0, 1, 0, 1, 0, 1, 0]) m
  { regs := [(2, .loc 2 0), (3, .loc 3 0), (12, .v (.sl a0_Lu a0_Ln a0_Lc)), (13, .v (i64 ((a0_Ln : Nat) : Int))), (14, .v (i64 x1_0))], st := ⟨[(2, [i64 (0), .sl true 0 [], .sl true 0 [], i64 (0)]), (3, [i64 (13), .bsl 0 x1_1 0 x1_2, .bsl 1 x1_1 0 x1_2, i64 (0)])], ⟨[(1, ⟨x1_1, 4, x1_3⟩), (0, ⟨x1_1, 1, x1_4⟩)], 2⟩⟩, nt := 60 }
  (contC cfg (cl n) f_ctype_Plain n asks_ctype_Plain (bodyOf Tryz.f55) [1, 0, 1, 0, 1, 0, 1, 0, 1, 0] [] (retK cfg Tryz.f55 Q))
theorem vc_ctype_Plain (n : Nat) (a0_Kind : Int) (a0_Namesu : Bool) (a0_Namesn : Nat) (a0_Namesc : List PV) (a0_Lu : Bool) (a0_Ln : Nat) (a0_Lc : List PV) (a0_R : Int) (Q : PV → Store → Prop)
  (h :
    br (decide (a0_Kind = (14)))
    (L_ctype_Plain_0 n n a0_Lu a0_Ln a0_Lc Q)
    (br (decide (a0_Kind = (16)))
      (∃ (v1 : Bool) (v2 : Nat) (v3 : List PV), (cl n f_slices_Clone_sl_string_string [.sl a0_Namesu a0_Namesn a0_Namesc] ⟨[], 0⟩ = some (.sl v1 v2 v3, ⟨[], 0⟩)) ∧
        ((0 : Int) ≤ ((a0_Namesn : Nat) : Int) ∧ ((a0_Namesn : Nat) : Int) ≤ ((a0_Namesn : Nat) : Int) ∧ ((a0_Namesn : Nat) : Int) * 64 ≤ 140737488355328 ∧ ((a0_Namesn : Nat) : Int) ≤ 140737488355328) ∧
        Q (.agg [i64 (15), .sl v1 v2 v3, .bsl 0 0 0 (Int.toNat ((a0_Namesn : Nat) : Int)), i64 (0)]) ⟨[(0, ⟨0, 4, (rep (Int.toNat ((a0_Namesn : Nat) : Int)) [i64 (0), .sl true 0 [], .sl true 0 [], i64 (0)])⟩)], 1⟩)
      (br (decide (a0_Kind = (17)))
        (((a0_Lc : List PV).length = a0_Ln * 4 ∧ (a0_Lc : List PV).all oneC = true ∧ 0 = 0 ∧ 0 = 0 ∧ 4 = 4 ∧ 1 * 4 ≤ ([i64 (0), .sl true 0 [], .sl true 0 [], i64 (0)] : List PV).length ∧ ([i64 (0), .sl true 0 [], .sl true 0 [], i64 (0)] : List PV).all oneC = true ∧ (1 + a0_Ln) * 64 ≤ 140737488355328 ∧ 1 + a0_Ln ≤ 140737488355328) ∧
          Q (.agg [i64 (15), .sl true 2 [.s (.string (ByteArray.mk #[110, 111, 110, 101])), .s (.string (ByteArray.mk #[115, 111, 109, 101]))], .bsl 0 1 0 (1 + a0_Ln), i64 (0)]) ⟨[(0, ⟨1, 4, ([i64 (0), .sl true 0 [], .sl true 0 [], i64 (0)] ++ a0_Lc)⟩)], 1⟩)
        (br (decide (a0_Kind = (18)))
          (∃ (v4 : Bool) (v5 : Nat) (v6 : List PV), (cl n f_slices_Clone_sl_api_Type_api_Type [.sl a0_Lu a0_Ln a0_Lc] ⟨[], 0⟩ = some (.sl v4 v5 v6, ⟨[], 0⟩)) ∧
            Q (.agg [i64 (15), .sl true 2 [.s (.string (ByteArray.mk #[111, 107])), .s (.string (ByteArray.mk #[101, 114, 114, 111, 114]))], .sl v4 v5 v6, i64 (0)]) ⟨[], 0⟩)
          (Q (.agg [i64 a0_Kind, .sl a0_Namesu a0_Namesn a0_Namesc, .sl a0_Lu a0_Ln a0_Lc, i64 a0_R]) ⟨[], 0⟩))))) :
  Ret cfg (n + 1) f_ctype_Plain [.agg [i64 a0_Kind, .sl a0_Namesu a0_Namesn a0_Namesc, .sl a0_Lu a0_Ln a0_Lc, i64 a0_R]] ⟨[], 0⟩ Q :=
  vcRun_eq (fn := Tryz.f55) (asks := asks_ctype_Plain) (by kernel_rfl) (by kernel_rfl) (by kernel_rfl) (by kernel_rfl) (by kernel_rfl) h
theorem lp_ctype_Plain_0 (n m : Nat) (a0_Lu : Bool) (a0_Ln : Nat) (a0_Lc : List PV) (Q : PV → Store → Prop)
  (h :
    br (decide ((0) < ((a0_Ln : Nat) : Int)))
    (((0 : Int) ≤ (0) ∧ (0) < ((a0_Ln : Nat) : Int) ∧ Int.toNat (0) * 4 < (a0_Lc : List PV).length) ∧
      ∃ (v1 : Int) (v2 : Bool) (v3 : Nat) (v4 : List PV) (v5 : Bool) (v6 : Nat) (v7 : List PV) (v8 : Int), (ld prog t_api_Type a0_Lc 0 (.agg [i64 v1, .sl v2 v3 v4, .sl v5 v6 v7, i64 v8])) ∧
      ∃ (v9 : ByteArray), (cl n f_strconv_Itoa [i64 (0)] ⟨[], 0⟩ = some (.s (.string v9), ⟨[], 0⟩)) ∧
      (([.s (.string v9)] : List PV).length = 1 * 1 ∧ ([.s (.string v9)] : List PV).all oneC = true ∧ true = true ∧ ([] : List PV).length = 0 * 1 ∧ ([] : List PV).all oneC = true ∧ (0 + 1) * 16 ≤ 140737488355328 ∧ 0 + 1 ≤ 140737488355328 ∧ (0 = 0 ∨ 0 < 1)) ∧
      (([i64 v1, .sl v2 v3 v4, .sl v5 v6 v7, i64 v8] : List PV).length = 1 * 4 ∧ ([i64 v1, .sl v2 v3 v4, .sl v5 v6 v7, i64 v8] : List PV).all oneC = true ∧ true = true ∧ ([] : List PV).length = 0 * 4 ∧ ([] : List PV).all oneC = true ∧ (0 + 1) * 64 ≤ 140737488355328 ∧ 0 + 1 ≤ 140737488355328 ∧ (0 = 0 ∨ 0 < 1)) ∧
      L_ctype_Plain_1 n m a0_Lu a0_Ln a0_Lc (1) 0 1 [i64 v1, .sl v2 v3 v4, .sl v5 v6 v7, i64 v8] [.s (.string v9)] Q)
    (Q (.agg [i64 (13), .sl true 0 [], .sl true 0 [], i64 (0)]) ⟨[], 0⟩)) :
  L_ctype_Plain_0 n (m + 1) a0_Lu a0_Ln a0_Lc Q := by
  unfold L_ctype_Plain_0
  exact Ends_eq (asks := asks_ctype_Plain) (by kernel_rfl) h
theorem lp_ctype_Plain_1 (n m : Nat) (a0_Lu : Bool) (a0_Ln : Nat) (a0_Lc : List PV) (x1_0 : Int) (x1_1 : Nat) (x1_2 : Nat) (x1_3 : List PV) (x1_4 : List PV) (Q : PV → Store → Prop)
  (h :
    br (decide (x1_0 < ((a0_Ln : Nat) : Int)))
    (((0 : Int) ≤ x1_0 ∧ x1_0 < ((a0_Ln : Nat) : Int) ∧ Int.toNat x1_0 * 4 < (a0_Lc : List PV).length) ∧
      ∃ (v1 : Int) (v2 : Bool) (v3 : Nat) (v4 : List PV) (v5 : Bool) (v6 : Nat) (v7 : List PV) (v8 : Int), (ld prog t_api_Type a0_Lc (Int.toNat x1_0 * 4) (.agg [i64 v1, .sl v2 v3 v4, .sl v5 v6 v7, i64 v8])) ∧
      ∃ (v9 : ByteArray), (cl n f_strconv_Itoa [i64 x1_0] ⟨[(1, ⟨x1_1, 4, x1_3⟩), (0, ⟨x1_1, 1, x1_4⟩)], 2⟩ = some (.s (.string v9), ⟨[(1, ⟨x1_1, 4, x1_3⟩), (0, ⟨x1_1, 1, x1_4⟩)], 2⟩)) ∧
      (([.s (.string v9)] : List PV).length = 1 * 1 ∧ ([.s (.string v9)] : List PV).all oneC = true ∧ x1_1 = x1_1 ∧ 0 = 0 ∧ 1 = 1 ∧ x1_2 * 1 ≤ (x1_4 : List PV).length ∧ ((List.take (x1_2 * 1) x1_4) : List PV).all oneC = true ∧ (x1_2 + 1) * 16 ≤ 140737488355328 ∧ x1_2 + 1 ≤ 140737488355328) ∧
      (([i64 v1, .sl v2 v3 v4, .sl v5 v6 v7, i64 v8] : List PV).length = 1 * 4 ∧ ([i64 v1, .sl v2 v3 v4, .sl v5 v6 v7, i64 v8] : List PV).all oneC = true ∧ x1_1 = x1_1 ∧ 0 = 0 ∧ 4 = 4 ∧ x1_2 * 4 ≤ (x1_3 : List PV).length ∧ ((List.take (x1_2 * 4) x1_3) : List PV).all oneC = true ∧ (x1_2 + 1) * 64 ≤ 140737488355328 ∧ x1_2 + 1 ≤ 140737488355328) ∧
      L_ctype_Plain_1 n m a0_Lu a0_Ln a0_Lc (IntKind.i64.wrap (x1_0 + (1))) (x1_1 + 1) (x1_2 + 1) ((List.take (x1_2 * 4) x1_3) ++ [i64 v1, .sl v2 v3 v4, .sl v5 v6 v7, i64 v8]) ((List.take (x1_2 * 1) x1_4) ++ [.s (.string v9)]) Q)
    (Q (.agg [i64 (13), .bsl 0 x1_1 0 x1_2, .bsl 1 x1_1 0 x1_2, i64 (0)]) ⟨[(1, ⟨x1_1, 4, x1_3⟩), (0, ⟨x1_1, 1, x1_4⟩)], 2⟩)) :
  L_ctype_Plain_1 n (m + 1) a0_Lu a0_Ln a0_Lc x1_0 x1_1 x1_2 x1_3 x1_4 Q := by
  unfold L_ctype_Plain_1
  exact Ends_eq (asks := asks_ctype_Plain) (by kernel_rfl) h
/-! ### slices.Contains[[]string,string] -/
def asks_slices_Contains_sl_string_string : Asks := [(1002, .told (.sh (.one (.int .i64))))]
theorem vc_slices_Contains_sl_string_string (n : Nat) (a0u : Bool) (a0n : Nat) (a0c : List PV) (a1 : ByteArray) (Q : PV → Store → Prop)
  (h :
    ∃ (v1 : Int), (cl n f_slices_Index_sl_string_string [.sl a0u a0n a0c, .s (.string a1)] ⟨[], 0⟩ = some (i64 v1, ⟨[], 0⟩)) ∧
    Q (.s (.bool (decide (v1 ≥ (0))))) ⟨[], 0⟩) :
  Ret cfg (n + 1) f_slices_Contains_sl_string_string [.sl a0u a0n a0c, .s (.string a1)] ⟨[], 0⟩ Q :=
  vcRun_eq (fn := Tryz.f69) (asks := asks_slices_Contains_sl_string_string) (by kernel_rfl) (by kernel_rfl) (by kernel_rfl) (by kernel_rfl) (by kernel_rfl) h
/-! ### scarf/scarfref10.Name -/
def asks_scarfref10_Name : Asks := [(7002, .told (.sh (.one (.int .u8)))), (7003, .told (.sh (.one (.int .i64)))), (8006, .told (.sh (.one (.int .u8)))), (14004, .told (.sh (.one (.int .u8))))]
@[irreducible] noncomputable def L_scarfref10_Name_0 (n m : Nat) (a0 : ByteArray) (x0_0 : Int) (x0_1 : Int) (Q : PV → Store → Prop) : Prop := Pvm.Ends cfg (cl n) f_scarfref10_Name n (codeAt (bodyOf Tryz.f70) [1, 1, 1, 0, 1, 0]) m
  { regs := [(0, .v (.s (.string a0))), (3, .v (i64 x0_0)), (4, .v (i64 x0_1))], st := ⟨[], ⟨[], 0⟩⟩, nt := 57 }
  (contC cfg (cl n) f_scarfref10_Name n asks_scarfref10_Name (bodyOf Tryz.f70) [1, 1, 1, 0, 1, 0] [] (retK cfg Tryz.f70 Q))
theorem vc_scarfref10_Name (n : Nat) (a0 : ByteArray) (Q : PV → Store → Prop)
  (h :
    br (decide (((a0).size : Int) < (1)))
    (Q (.s (.bool false)) ⟨[], 0⟩)
    (br (decide (((a0).size : Int) > (100)))
      (Q (.s (.bool false)) ⟨[], 0⟩)
      (L_scarfref10_Name_0 n n a0 (0) (0) Q))) :
  Ret cfg (n + 1) f_scarfref10_Name [.s (.string a0)] ⟨[], 0⟩ Q :=
  vcRun_eq (fn := Tryz.f70) (asks := asks_scarfref10_Name) (by kernel_rfl) (by kernel_rfl) (by kernel_rfl) (by kernel_rfl) (by kernel_rfl) h
theorem lp_scarfref10_Name_0 (n m : Nat) (a0 : ByteArray) (x0_0 : Int) (x0_1 : Int) (Q : PV → Store → Prop)
  (h :
    br (decide (x0_1 < ((a0).size : Int)))
    (∃ (v1 : Int), (indexO prog t_string (.s (.string a0)) (i64 x0_1) = some (.s (.int .u8 v1))) ∧
      ∃ (v2 : Int), (cl n f_scarfref10_kind [.s (.int .u8 v1)] ⟨[], 0⟩ = some (i64 v2, ⟨[], 0⟩)) ∧
      br (decide (x0_1 = (0)))
      (br (!(decide (v2 = (1))))
        (br (!(decide (v2 = (2))))
          (Q (.s (.bool false)) ⟨[], 0⟩)
          (L_scarfref10_Name_0 n m a0 v2 (IntKind.i64.wrap (x0_1 + (1))) Q))
        (L_scarfref10_Name_0 n m a0 v2 (IntKind.i64.wrap (x0_1 + (1))) Q))
      (∃ (v3 : Int), (indexO prog t_string (.s (.string a0)) (i64 (IntKind.i64.wrap (x0_1 - (1)))) = some (.s (.int .u8 v3))) ∧
        br (decide (v3 = (45)))
        (br (!(decide (v2 = (1))))
          (br (!(decide (v2 = (2))))
            (Q (.s (.bool false)) ⟨[], 0⟩)
            (L_scarfref10_Name_0 n m a0 v2 (IntKind.i64.wrap (x0_1 + (1))) Q))
          (L_scarfref10_Name_0 n m a0 v2 (IntKind.i64.wrap (x0_1 + (1))) Q))
        (br (!(decide (v2 = x0_0)))
          (br (!(decide (v2 = (3))))
            (br (!(decide (v2 = (4))))
              (Q (.s (.bool false)) ⟨[], 0⟩)
              (L_scarfref10_Name_0 n m a0 x0_0 (IntKind.i64.wrap (x0_1 + (1))) Q))
            (L_scarfref10_Name_0 n m a0 x0_0 (IntKind.i64.wrap (x0_1 + (1))) Q))
          (L_scarfref10_Name_0 n m a0 x0_0 (IntKind.i64.wrap (x0_1 + (1))) Q))))
    (∃ (v4 : Int), (indexO prog t_string (.s (.string a0)) (i64 (IntKind.i64.wrap (((a0).size : Int) - (1)))) = some (.s (.int .u8 v4))) ∧
      Q (.s (.bool (!(decide (v4 = (45)))))) ⟨[], 0⟩)) :
  L_scarfref10_Name_0 n (m + 1) a0 x0_0 x0_1 Q := by
  unfold L_scarfref10_Name_0
  exact Ends_eq (asks := asks_scarfref10_Name) (by kernel_rfl) h
/-! ### scarf/scarfref13.digits -/
def asks_scarfref13_digits : Asks := [(3002, .told (.sh (.one (.str)))), (3009, .cond)]
theorem vc_scarfref13_digits (n : Nat) (a0 : Int) (Q : PV → Store → Prop)
  (h :
    br (decide (a0 < (10)))
    (Q (.s (.string (pushBytes [(IntKind.u8.wrap (IntKind.i64.wrap ((48) + a0)))]))) ⟨[], 0⟩)
    (∃ (v1 : ByteArray), (cl n f_scarfref13_digits [i64 (IntKind.i64.wrap (Int.tdiv a0 (10)))] ⟨[], 0⟩ = some (.s (.string v1), ⟨[], 0⟩)) ∧
      ((v1).size + ((pushBytes [(IntKind.u8.wrap (IntKind.i64.wrap ((48) + (Int.tmod a0 (10)))))])).size ≤ 9223372036854775807) ∧
      Q (.s (.string (v1 ++ (pushBytes [(IntKind.u8.wrap (IntKind.i64.wrap ((48) + (Int.tmod a0 (10)))))])))) ⟨[], 0⟩)) :
  Ret cfg (n + 1) f_scarfref13_digits [i64 a0] ⟨[], 0⟩ Q :=
  vcRun_eq (fn := Tryz.f72) (asks := asks_scarfref13_digits) (by kernel_rfl) (by kernel_rfl) (by kernel_rfl) (by kernel_rfl) (by kernel_rfl) h
/-! ### slices.Index[[]string,string] -/
def asks_slices_Index_sl_string_string : Asks := [(4003, .cond), (4004, .told (.sh (.one (.str))))]
@[irreducible] noncomputable def L_slices_Index_sl_string_string_0 (n m : Nat) (a0u : Bool) (a0n : Nat) (a0c : List PV) (a1 : ByteArray) (x0_0 : Int) (Q : PV → Store → Prop) : Prop := Pvm.Ends cfg (cl n) f_slices_Index_sl_string_string n (codeAt (bodyOf Tryz.f88) [1, 0, 1, 0]) m
  { regs := [(0, .v (.sl a0u a0n a0c)), (1, .v (.s (.string a1))), (7, .v (i64 ((a0n : Nat) : Int))), (8, .v (i64 x0_0))], st := ⟨[], ⟨[], 0⟩⟩, nt := 19 }
  (contC cfg (cl n) f_slices_Index_sl_string_string n asks_slices_Index_sl_string_string (bodyOf Tryz.f88) [1, 0, 1, 0] [] (retK cfg Tryz.f88 Q))
theorem vc_slices_Index_sl_string_string (n : Nat) (a0u : Bool) (a0n : Nat) (a0c : List PV) (a1 : ByteArray) (Q : PV → Store → Prop)
  (h :
    L_slices_Index_sl_string_string_0 n n a0u a0n a0c a1 (0) Q) :
  Ret cfg (n + 1) f_slices_Index_sl_string_string [.sl a0u a0n a0c, .s (.string a1)] ⟨[], 0⟩ Q :=
  vcRun_eq (fn := Tryz.f88) (asks := asks_slices_Index_sl_string_string) (by kernel_rfl) (by kernel_rfl) (by kernel_rfl) (by kernel_rfl) (by kernel_rfl) h
theorem lp_slices_Index_sl_string_string_0 (n m : Nat) (a0u : Bool) (a0n : Nat) (a0c : List PV) (a1 : ByteArray) (x0_0 : Int) (Q : PV → Store → Prop)
  (h :
    br (decide (x0_0 < ((a0n : Nat) : Int)))
    (((0 : Int) ≤ x0_0 ∧ x0_0 < ((a0n : Nat) : Int) ∧ Int.toNat x0_0 * 1 < (a0c : List PV).length) ∧
      ∃ (v1 : ByteArray), (ld prog t_string a0c (Int.toNat x0_0 * 1) (.s (.string v1))) ∧
      br (a1.toList == v1.toList)
      (Q (i64 x0_0) ⟨[], 0⟩)
      (L_slices_Index_sl_string_string_0 n m a0u a0n a0c a1 (IntKind.i64.wrap (x0_0 + (1))) Q))
    (Q (i64 (-1)) ⟨[], 0⟩)) :
  L_slices_Index_sl_string_string_0 n (m + 1) a0u a0n a0c a1 x0_0 Q := by
  unfold L_slices_Index_sl_string_string_0
  exact Ends_eq (asks := asks_slices_Index_sl_string_string) (by kernel_rfl) h
/-! ### scarf/scarfref10.kind -/
def asks_scarfref10_kind : Asks := []
theorem vc_scarfref10_kind (n : Nat) (a0 : Int) (Q : PV → Store → Prop)
  (h :
    br (decide (a0 ≥ (97)))
    (br (decide (a0 ≤ (122)))
      (Q (i64 (1)) ⟨[], 0⟩)
      (br (decide (a0 ≥ (65)))
        (br (decide (a0 ≤ (90)))
          (Q (i64 (2)) ⟨[], 0⟩)
          (br (decide (a0 ≥ (48)))
            (br (decide (a0 ≤ (57)))
              (Q (i64 (3)) ⟨[], 0⟩)
              (br (decide (a0 = (45)))
                (Q (i64 (4)) ⟨[], 0⟩)
                (br (decide (a0 = (46)))
                  (Q (i64 (5)) ⟨[], 0⟩)
                  (Q (i64 (0)) ⟨[], 0⟩))))
            (br (decide (a0 = (45)))
              (Q (i64 (4)) ⟨[], 0⟩)
              (br (decide (a0 = (46)))
                (Q (i64 (5)) ⟨[], 0⟩)
                (Q (i64 (0)) ⟨[], 0⟩)))))
        (br (decide (a0 ≥ (48)))
          (br (decide (a0 ≤ (57)))
            (Q (i64 (3)) ⟨[], 0⟩)
            (br (decide (a0 = (45)))
              (Q (i64 (4)) ⟨[], 0⟩)
              (br (decide (a0 = (46)))
                (Q (i64 (5)) ⟨[], 0⟩)
                (Q (i64 (0)) ⟨[], 0⟩))))
          (br (decide (a0 = (45)))
            (Q (i64 (4)) ⟨[], 0⟩)
            (br (decide (a0 = (46)))
              (Q (i64 (5)) ⟨[], 0⟩)
              (Q (i64 (0)) ⟨[], 0⟩))))))
    (br (decide (a0 ≥ (65)))
      (br (decide (a0 ≤ (90)))
        (Q (i64 (2)) ⟨[], 0⟩)
        (br (decide (a0 ≥ (48)))
          (br (decide (a0 ≤ (57)))
            (Q (i64 (3)) ⟨[], 0⟩)
            (br (decide (a0 = (45)))
              (Q (i64 (4)) ⟨[], 0⟩)
              (br (decide (a0 = (46)))
                (Q (i64 (5)) ⟨[], 0⟩)
                (Q (i64 (0)) ⟨[], 0⟩))))
          (br (decide (a0 = (45)))
            (Q (i64 (4)) ⟨[], 0⟩)
            (br (decide (a0 = (46)))
              (Q (i64 (5)) ⟨[], 0⟩)
              (Q (i64 (0)) ⟨[], 0⟩)))))
      (br (decide (a0 ≥ (48)))
        (br (decide (a0 ≤ (57)))
          (Q (i64 (3)) ⟨[], 0⟩)
          (br (decide (a0 = (45)))
            (Q (i64 (4)) ⟨[], 0⟩)
            (br (decide (a0 = (46)))
              (Q (i64 (5)) ⟨[], 0⟩)
              (Q (i64 (0)) ⟨[], 0⟩))))
        (br (decide (a0 = (45)))
          (Q (i64 (4)) ⟨[], 0⟩)
          (br (decide (a0 = (46)))
            (Q (i64 (5)) ⟨[], 0⟩)
            (Q (i64 (0)) ⟨[], 0⟩)))))) :
  Ret cfg (n + 1) f_scarfref10_kind [.s (.int .u8 a0)] ⟨[], 0⟩ Q :=
  vcRun_eq (fn := Tryz.f89) (asks := asks_scarfref10_kind) (by kernel_rfl) (by kernel_rfl) (by kernel_rfl) (by kernel_rfl) (by kernel_rfl) h
end Go.Proofs.YtmjnfdjhaopeiaaGreatDoor
