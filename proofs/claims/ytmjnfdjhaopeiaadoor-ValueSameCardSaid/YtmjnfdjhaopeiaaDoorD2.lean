/-
  A part of the proof: D2.
-/
import Derived.Test.YtmjnfdjhaopeiaaDoorD1
import Derived.Test.YtmjnfdjhaopeiaaDoorPy1
namespace Go.Proofs.YtmjnfdjhaopeiaaDoor
open Go Go.Pvm
set_option maxRecDepth 100000
theorem weigh_deep (n : Nat) (N deep : Int) (us ul : Bool) (ns nl : Nat) (cs cl : List PV) (h : 20 < deep) :
    run cfg (n + 1) 8 [.agg [i64 N, .sl us ns cs, .sl ul nl cl], i64 deep] ⟨[], 0⟩ = some (i64 1073741824, ⟨[], 0⟩) := by
  refine askRun_ok (ask := [8]) (lp := idl) (ys := [yes]) (l := [decide (20 < deep) = true]) ?_ ⟨decide_eq_true h, trivial⟩
  kernel_rfl

theorem weigh_long (n : Nat) (N deep : Int) (us ul : Bool) (ns nl : Nat) (cs cl : List PV) (h : decide (20 < deep) = false) (h2 : 20000 < (ns : Int)) :
    run cfg (n + 1) 8 [.agg [i64 N, .sl us ns cs, .sl ul nl cl], i64 deep] ⟨[], 0⟩ = some (i64 1073741824, ⟨[], 0⟩) := by
  refine askRun_ok (ask := [8, 13]) (lp := idl) (ys := [no, yes]) (l := [decide (20 < deep) = false, decide (20000 < (ns : Int)) = true]) ?_ ⟨h, decide_eq_true h2, trivial⟩
  kernel_rfl
theorem weigh_many (n : Nat) (N deep : Int) (us ul : Bool) (ns nl : Nat) (cs cl : List PV) (h : decide (20 < deep) = false) (h2 : decide (20000 < (ns : Int)) = false) (h3 : 20000 < (nl : Int)) :
    run cfg (n + 1) 8 [.agg [i64 N, .sl us ns cs, .sl ul nl cl], i64 deep] ⟨[], 0⟩ = some (i64 1073741824, ⟨[], 0⟩) := by
  refine askRun_ok (ask := [8, 13, 19]) (lp := idl) (ys := [no, no, yes]) (l := [decide (20 < deep) = false, decide (20000 < (ns : Int)) = false, decide (20000 < (nl : Int)) = true]) ?_ ⟨h, h2, decide_eq_true h3, trivial⟩
  kernel_rfl

noncomputable def c8 : Code := (((Tryd.f8).body).bind loopIn).getD .skip
abbrev val (N : Int) (us : Bool) (ns : Nat) (cs : List PV) (ul : Bool) (nl : Nat) (cl : List PV) : List PV := [i64 N, .sl us ns cs, .sl ul nl cl]
def fr8 (N : Int) (us : Bool) (ns : Nat) (cs : List PV) (ul : Bool) (nl : Nat) (cl : List PV) (deep acc i : Int) (a b : RV) : Fr :=
  { regs := [(1, .v (i64 deep)), (2, .loc 2 0), (5, .v (i64 acc)), (6, .v (i64 i)), (31, a), (32, b)], st := ⟨[(2, val N us ns cs ul nl cl)], ⟨[], 0⟩⟩, nt := 47 }

theorem round8 (call : CallFn) (n : Nat) (N : Int) (us : Bool) (ns : Nat) (cs : List PV) (ul : Bool) (nl : Nat) (cl e : List PV) (deep acc i w acc' i' deep' : Int) (a b : RV) (k : Nat) :
    (askExec cfg call 8 n [29, 32, 40, 41, 43, 44, 45, 35] idl c8 ((fr8 N us ns cs ul nl cl deep acc i a b).clear cfg 8) [yes, yes, .v (.cel cl k), .v (.agg e), .v (i64 deep'), .v (i64 w), .v (i64 acc'), .v (i64 i')]).map (fun z => (z.1, z.2.1.clear cfg 8, z.2.2.2)) =
    some (.normal, fr8 N us ns cs ul nl cl deep acc' i' (.v (i64 acc)) yes, [decide (i < (nl : Int)) = true, decide (acc ≤ 20000) = true,
      indexAddrO Tryd.prog ⟨[(2, val N us ns cs ul nl cl)], ⟨[], 0⟩⟩ 23 (.v (.sl ul nl cl)) (i64 i) = some (.v (.cel cl k)),
      loadO Tryd.prog ⟨[(2, val N us ns cs ul nl cl)], ⟨[], 0⟩⟩ 25 (.v (.cel cl k)) = some (.agg e),
      IntKind.i64 = IntKind.i64 ∧ IntKind.i64.wrap (deep + 1) = deep',
      call 8 [.agg e, i64 deep'] ⟨[], 0⟩ = some (i64 w, ⟨[], 0⟩), IntKind.i64 = IntKind.i64 ∧ IntKind.i64.wrap (acc + w) = acc', IntKind.i64 = IntKind.i64 ∧ IntKind.i64.wrap (i + 1) = i']) := by
  kernel_rfl

noncomputable def end8 (N : Int) (us : Bool) (ns : Nat) (cs : List PV) (ul : Bool) (nl : Nat) (cl : List PV) (deep acc i : Int) (a b : RV) (ys : List RV) : Fr :=
  match askExec cfg (fun _ _ _ => none) 8 0 [29, 32] idl c8 ((fr8 N us ns cs ul nl cl deep acc i a b).clear cfg 8) ys with
  | some (_, F, _) => F
  | none => { regs := [], st := ⟨[], ⟨[], 0⟩⟩, nt := 0 }

theorem last8a (call : CallFn) (n : Nat) (N : Int) (us : Bool) (ns : Nat) (cs : List PV) (ul : Bool) (nl : Nat) (cl : List PV) (deep acc i : Int) (a b : RV) :
    askExec cfg call 8 n [29, 32] idl c8 ((fr8 N us ns cs ul nl cl deep acc i a b).clear cfg 8) [no] =
    some (.exit 0, end8 N us ns cs ul nl cl deep acc i a b [no], [], [decide (i < (nl : Int)) = false]) := by
  kernel_rfl

theorem last8b (call : CallFn) (n : Nat) (N : Int) (us : Bool) (ns : Nat) (cs : List PV) (ul : Bool) (nl : Nat) (cl : List PV) (deep acc i : Int) (a b : RV) :
    askExec cfg call 8 n [29, 32] idl c8 ((fr8 N us ns cs ul nl cl deep acc i a b).clear cfg 8) [yes, no] =
    some (.exit 0, end8 N us ns cs ul nl cl deep acc i a b [yes, no], [], [decide (i < (nl : Int)) = true, decide (acc ≤ 20000) = false]) := by
  kernel_rfl

theorem run8a (n : Nat) (N : Int) (us : Bool) (ns : Nat) (cs : List PV) (ul : Bool) (nl : Nat) (cl : List PV) (deep acc acc0 i : Int) (a b : RV) :
    askRun cfg n 8 [8, 13, 19, 24] (fun _ => (.exit 0, end8 N us ns cs ul nl cl deep acc i a b [no])) [.agg (val N us ns cs ul nl cl), i64 deep] ⟨[], 0⟩ [no, no, no, .v (i64 acc0)] =
    some (i64 acc, ⟨[], 0⟩, [decide (20 < deep) = false, decide (20000 < (ns : Int)) = false, decide (20000 < (nl : Int)) = false, IntKind.i64 = IntKind.i64 ∧ IntKind.i64.wrap (1 + (ns : Int)) = acc0,
      iter cfg 8 (exec cfg (callF cfg (run cfg n)) 8 n c8) n (fr8 N us ns cs ul nl cl deep acc0 0 (.v .any) (.v .any)) = some (.exit 0, end8 N us ns cs ul nl cl deep acc i a b [no])]) := by
  kernel_rfl

theorem run8b (n : Nat) (N : Int) (us : Bool) (ns : Nat) (cs : List PV) (ul : Bool) (nl : Nat) (cl : List PV) (deep acc acc0 i : Int) (a b : RV) :
    askRun cfg n 8 [8, 13, 19, 24] (fun _ => (.exit 0, end8 N us ns cs ul nl cl deep acc i a b [yes, no])) [.agg (val N us ns cs ul nl cl), i64 deep] ⟨[], 0⟩ [no, no, no, .v (i64 acc0)] =
    some (i64 acc, ⟨[], 0⟩, [decide (20 < deep) = false, decide (20000 < (ns : Int)) = false, decide (20000 < (nl : Int)) = false, IntKind.i64 = IntKind.i64 ∧ IntKind.i64.wrap (1 + (ns : Int)) = acc0,
      iter cfg 8 (exec cfg (callF cfg (run cfg n)) 8 n c8) n (fr8 N us ns cs ul nl cl deep acc0 0 (.v .any) (.v .any)) = some (.exit 0, end8 N us ns cs ul nl cl deep acc i a b [yes, no])]) := by
  kernel_rfl

theorem under23 : Tryd.prog.underlying 23 = some (.slice 25) := by kernel_rfl
theorem size25 : size? Tryd.prog 25 = some 3 := by kernel_rfl
theorem agg25 : agg? Tryd.prog 25 = some true := by kernel_rfl

theorem at8 (T : LS) (u : Bool) (a : List Vl) (v : Vl) (r : List Vl) :
    indexAddrO Tryd.prog T 23 (.v (.sl u (a ++ v :: r).length (cellsL (a ++ v :: r)))) (i64 a.length) = some (.v (.cel (cellsL (a ++ v :: r)) (a.length * 3))) ∧
    loadO Tryd.prog T 25 (.v (.cel (cellsL (a ++ v :: r)) (a.length * 3))) = some (.agg v.cells) := by
  constructor
  · unfold indexAddrO
    simp only [under23, size25]
    rw [if_pos]
    · simp
    · refine ⟨by omega, by simp; omega, ?_⟩
      rw [cellsL_len]; simp; omega
  · unfold loadO
    simp only [addrCells, agg25, size25]
    rw [if_pos (by rw [cellsL_len]; simp; omega), cellsL_at]

mutual
theorem weigh_run : ∀ (v : Vl) (deep : Int) (n : Nat), 0 ≤ deep → deep ≤ 21 → 25000 + (22 - deep).toNat ≤ n → run cfg n 8 [.agg v.cells, i64 deep] ⟨[], 0⟩ = some (i64 (wt v deep), ⟨[], 0⟩)
  | .mk N us ss ul l, deep, n, h0, h1, hn => by
    obtain ⟨n, rfl⟩ : ∃ k, n = k + 1 := ⟨n - 1, by omega⟩
    simp only [Vl.cells, wt]
    by_cases c1 : 20 < deep
    · rw [if_pos (.inl c1)]; exact weigh_deep n N deep us ul _ _ _ _ c1
    have d1 : decide (20 < deep) = false := decide_eq_false c1
    by_cases c2 : 20000 < (ss.length : Int)
    · rw [if_pos (.inr (.inl c2))]; exact weigh_long n N deep us ul _ _ _ _ d1 c2
    have d2 : decide (20000 < (ss.length : Int)) = false := decide_eq_false c2
    by_cases c3 : 20000 < (l.length : Int)
    · rw [if_pos (.inr (.inr c3))]; exact weigh_many n N deep us ul _ _ _ _ d1 d2 c3
    have d3 : decide (20000 < (l.length : Int)) = false := decide_eq_false c3
    rw [if_neg (by omega)]
    have hw : IntKind.i64.wrap (1 + (ss.length : Int)) = 1 + ss.length := IntWalk.i64_in _ (by omega)
    obtain ⟨acc, i, a, b, hacc, h⟩ := weighL_run l [] l rfl N us ss ul deep (1 + ss.length) n (.v .any) (.v .any) h0 (by omega) (by omega) (by omega) (by omega) n (by omega)
    rcases h with h | h
    · exact askRun_ok (run8a n N us ss.length (ss.map i64) ul l.length (cellsL l) deep acc (1 + ss.length) i a b) ⟨d1, d2, d3, ⟨rfl, hw⟩, h, trivial⟩ |>.trans (by rw [hacc])
    · exact askRun_ok (run8b n N us ss.length (ss.map i64) ul l.length (cellsL l) deep acc (1 + ss.length) i a b) ⟨d1, d2, d3, ⟨rfl, hw⟩, h, trivial⟩ |>.trans (by rw [hacc])
theorem weighL_run : ∀ (r a : List Vl) (l : List Vl), l = a ++ r → ∀ (N : Int) (us : Bool) (ss : List Int) (ul : Bool) (deep acc : Int) (n : Nat) (x y : RV), 0 ≤ deep → deep ≤ 20 → l.length ≤ 20000 →
    (0 ≤ acc ∧ acc ≤ 20001 + 1073741824 + 20001 * (21 - deep)) → 25000 + (22 - (deep + 1)).toNat ≤ n → ∀ m, r.length < m →
    ∃ (acc' i' : Int) (x' y' : RV), wtL r (deep + 1) acc = acc' ∧
    (iter cfg 8 (exec cfg (callF cfg (run cfg n)) 8 n c8) m (fr8 N us ss.length (ss.map i64) ul l.length (cellsL l) deep acc a.length x y) = some (.exit 0, end8 N us ss.length (ss.map i64) ul l.length (cellsL l) deep acc' i' x' y' [no]) ∨
     iter cfg 8 (exec cfg (callF cfg (run cfg n)) 8 n c8) m (fr8 N us ss.length (ss.map i64) ul l.length (cellsL l) deep acc a.length x y) = some (.exit 0, end8 N us ss.length (ss.map i64) ul l.length (cellsL l) deep acc' i' x' y' [yes, no]))
  | [], a, l, hl, N, us, ss, ul, deep, acc, n, x, y, h0, h1, h2, h3, hn, m, hm => by
    obtain ⟨m, rfl⟩ : ∃ k, m = k + 1 := ⟨m - 1, by omega⟩
    refine ⟨acc, a.length, x, y, rfl, .inl ?_⟩
    refine iter_last (last8a (callF cfg (run cfg n)) n N us ss.length (ss.map i64) ul l.length (cellsL l) deep acc a.length x y) ⟨decide_eq_false ?_, trivial⟩
    subst hl; simp
  | v :: r, a, l, hl, N, us, ss, ul, deep, acc, n, x, y, h0, h1, h2, h3, hn, m, hm => by
    obtain ⟨m, rfl⟩ : ∃ k, m = k + 1 := ⟨m - 1, by omega⟩
    have hlen : a.length < l.length := by subst hl; simp
    simp only [wtL]
    by_cases c : acc ≤ 20000
    · rw [if_pos c]
      have ih := weigh_run v (deep + 1) n (by omega) (by omega) hn
      have hb := wt_le v (deep + 1) (by omega)
      have hp := wt_pos v (deep + 1)
      obtain ⟨acc', i', x', y', e, h⟩ := weighL_run r (a ++ [v]) l (by rw [hl]; simp) N us ss ul deep (acc + wt v (deep + 1)) n (.v (i64 acc)) yes h0 h1 h2 ⟨by omega, by omega⟩ hn m (by simp at hm; omega)
      have hcall : callF cfg (run cfg n) 8 [.agg v.cells, i64 (deep + 1)] ⟨[], 0⟩ = some (i64 (wt v (deep + 1)), ⟨[], 0⟩) :=
        callF_pure (by kernel_rfl) (by simp [pureL?, pure?, pure_cells]) ih (by rfl)
      have hr := iter_round (m := m) (round8 (callF cfg (run cfg n)) n N us ss.length (ss.map i64) ul l.length (cellsL l) v.cells deep acc a.length (wt v (deep + 1)) (acc + wt v (deep + 1)) ((a ++ [v]).length) (deep + 1) x y (a.length * 3))
        ⟨decide_eq_true (by omega), decide_eq_true c, by rw [hl]; exact (at8 _ ul a v r).1, by rw [hl]; exact (at8 _ ul a v r).2, ⟨rfl, IntWalk.i64_in _ (by omega)⟩, hcall, ⟨rfl, IntWalk.i64_in _ (by omega)⟩, ⟨rfl, by rw [IntWalk.i64_in _ (by omega)]; simp⟩, trivial⟩
      rw [hr]
      exact ⟨acc', i', x', y', e, h⟩
    · rw [if_neg c]
      refine ⟨acc, a.length, x, y, rfl, .inr ?_⟩
      exact iter_last (last8b (callF cfg (run cfg n)) n N us ss.length (ss.map i64) ul l.length (cellsL l) deep acc a.length x y) ⟨decide_eq_true (by omega), decide_eq_false c, trivial⟩
end
end Go.Proofs.YtmjnfdjhaopeiaaDoor
