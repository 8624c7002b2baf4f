/-
  A part of the proof: D3.
-/
import Derived.Test.YtmjnfdjhaopeiaaDoorD2
namespace Go.Proofs.YtmjnfdjhaopeiaaDoor
open Go Go.Pvm
set_option maxRecDepth 100000
theorem under22 : Tryd.prog.underlying 22 = some (.slice 3) := by kernel_rfl
theorem size3 : size? Tryd.prog 3 = some 1 := by kernel_rfl
theorem agg3 : agg? Tryd.prog 3 = some false := by kernel_rfl
theorem atInts {T : LS} (u : Bool) (a : List Int) (v : Int) (r : List Int) :
    indexAddrO Tryd.prog T 22 (.v (.sl u (a ++ v :: r).length ((a ++ v :: r).map i64))) (i64 a.length) = some (.v (.cel ((a ++ v :: r).map i64) a.length)) ∧
    loadO Tryd.prog T 3 (.v (.cel ((a ++ v :: r).map i64) a.length)) = some (i64 v) := by
  constructor
  · unfold indexAddrO
    simp only [under22, size3]
    rw [if_pos]
    · simp
    · refine ⟨by omega, by simp; omega, by simp⟩
  · unfold loadO
    simp [addrCells, agg3, size3]

/-! ### f10: two lists of numbers, place by place -/
noncomputable def c10 : Code := (((Tryd.f10).body).bind loopIn).getD .skip
def fr10 (u1 : Bool) (n1 : Nat) (c1 : List PV) (u2 : Bool) (n2 : Nat) (c2 : List PV) (i : Int) : Fr :=
  { regs := [(0, .v (.sl u1 n1 c1)), (1, .v (.sl u2 n2 c2)), (12, .v (i64 n1)), (13, .v (i64 i))], st := ⟨[], ⟨[], 0⟩⟩, nt := 26 }

theorem round10 (call : CallFn) (n : Nat) (u1 : Bool) (n1 : Nat) (c1 : List PV) (u2 : Bool) (n2 : Nat) (c2 : List PV) (i i' x y : Int) (k : Nat) :
    (askExec cfg call 10 n [14, 18, 19, 22, 23, 24, 25] idl c10 ((fr10 u1 n1 c1 u2 n2 c2 i).clear cfg 10) [yes, .v (.cel c1 k), .v (i64 x), .v (.cel c2 k), .v (i64 y), no, .v (i64 i')]).map (fun z => (z.1, z.2.1.clear cfg 10, z.2.2.2)) =
    some (.normal, fr10 u1 n1 c1 u2 n2 c2 i', [decide (i < (n1 : Int)) = true,
      indexAddrO Tryd.prog ⟨[], ⟨[], 0⟩⟩ 22 (.v (.sl u1 n1 c1)) (i64 i) = some (.v (.cel c1 k)), loadO Tryd.prog ⟨[], ⟨[], 0⟩⟩ 3 (.v (.cel c1 k)) = some (i64 x),
      indexAddrO Tryd.prog ⟨[], ⟨[], 0⟩⟩ 22 (.v (.sl u2 n2 c2)) (i64 i) = some (.v (.cel c2 k)), loadO Tryd.prog ⟨[], ⟨[], 0⟩⟩ 3 (.v (.cel c2 k)) = some (i64 y),
      (!decide (x = y)) = false, IntKind.i64 = IntKind.i64 ∧ IntKind.i64.wrap (i + 1) = i']) := by
  kernel_rfl

noncomputable def end10a (u1 : Bool) (n1 : Nat) (c1 : List PV) (u2 : Bool) (n2 : Nat) (c2 : List PV) (i : Int) : Fr :=
  match askExec cfg (fun _ _ _ => none) 10 0 [14] idl c10 ((fr10 u1 n1 c1 u2 n2 c2 i).clear cfg 10) [no] with
  | some (_, F, _) => F
  | none => { regs := [], st := ⟨[], ⟨[], 0⟩⟩, nt := 0 }
noncomputable def end10b (u1 : Bool) (n1 : Nat) (c1 : List PV) (u2 : Bool) (n2 : Nat) (c2 : List PV) (i x y : Int) (k : Nat) : Fr :=
  match askExec cfg (fun _ _ _ => none) 10 0 [14, 18, 19, 22, 23, 24] idl c10 ((fr10 u1 n1 c1 u2 n2 c2 i).clear cfg 10) [yes, .v (.cel c1 k), .v (i64 x), .v (.cel c2 k), .v (i64 y), yes] with
  | some (_, F, _) => F
  | none => { regs := [], st := ⟨[], ⟨[], 0⟩⟩, nt := 0 }

theorem last10a (call : CallFn) (n : Nat) (u1 : Bool) (n1 : Nat) (c1 : List PV) (u2 : Bool) (n2 : Nat) (c2 : List PV) (i : Int) :
    askExec cfg call 10 n [14] idl c10 ((fr10 u1 n1 c1 u2 n2 c2 i).clear cfg 10) [no] = some (.exit 0, end10a u1 n1 c1 u2 n2 c2 i, [], [decide (i < (n1 : Int)) = false]) := by
  kernel_rfl
theorem last10b (call : CallFn) (n : Nat) (u1 : Bool) (n1 : Nat) (c1 : List PV) (u2 : Bool) (n2 : Nat) (c2 : List PV) (i x y : Int) (k : Nat) :
    askExec cfg call 10 n [14, 18, 19, 22, 23, 24] idl c10 ((fr10 u1 n1 c1 u2 n2 c2 i).clear cfg 10) [yes, .v (.cel c1 k), .v (i64 x), .v (.cel c2 k), .v (i64 y), yes] =
    some (.ret, end10b u1 n1 c1 u2 n2 c2 i x y k, [], [decide (i < (n1 : Int)) = true,
      indexAddrO Tryd.prog ⟨[], ⟨[], 0⟩⟩ 22 (.v (.sl u1 n1 c1)) (i64 i) = some (.v (.cel c1 k)), loadO Tryd.prog ⟨[], ⟨[], 0⟩⟩ 3 (.v (.cel c1 k)) = some (i64 x),
      indexAddrO Tryd.prog ⟨[], ⟨[], 0⟩⟩ 22 (.v (.sl u2 n2 c2)) (i64 i) = some (.v (.cel c2 k)), loadO Tryd.prog ⟨[], ⟨[], 0⟩⟩ 3 (.v (.cel c2 k)) = some (i64 y),
      (!decide (x = y)) = true]) := by
  kernel_rfl

theorem run10l (n : Nat) (u1 : Bool) (n1 : Nat) (c1 : List PV) (u2 : Bool) (n2 : Nat) (c2 : List PV) (h : (n1 : Int) ≠ n2) :
    run cfg (n + 1) 10 [.sl u1 n1 c1, .sl u2 n2 c2] ⟨[], 0⟩ = some (.s (.bool false), ⟨[], 0⟩) := by
  refine askRun_ok (ask := [10]) (lp := idl) (ys := [yes]) (l := [(!decide ((n1 : Int) = (n2 : Int))) = true]) ?_ ⟨by simpa using h, trivial⟩
  kernel_rfl
theorem run10a (n : Nat) (u1 : Bool) (n1 : Nat) (c1 : List PV) (u2 : Bool) (n2 : Nat) (c2 : List PV) (i : Int) :
    askRun cfg n 10 [10] (fun _ => (.exit 0, end10a u1 n1 c1 u2 n2 c2 i)) [.sl u1 n1 c1, .sl u2 n2 c2] ⟨[], 0⟩ [no] =
    some (.s (.bool true), ⟨[], 0⟩, [(!decide ((n1 : Int) = (n2 : Int))) = false, iter cfg 10 (exec cfg (callF cfg (run cfg n)) 10 n c10) n (fr10 u1 n1 c1 u2 n2 c2 0) = some (.exit 0, end10a u1 n1 c1 u2 n2 c2 i)]) := by
  kernel_rfl
theorem run10b (n : Nat) (u1 : Bool) (n1 : Nat) (c1 : List PV) (u2 : Bool) (n2 : Nat) (c2 : List PV) (i x y : Int) (k : Nat) :
    askRun cfg n 10 [10] (fun _ => (.ret, end10b u1 n1 c1 u2 n2 c2 i x y k)) [.sl u1 n1 c1, .sl u2 n2 c2] ⟨[], 0⟩ [no] =
    some (.s (.bool false), ⟨[], 0⟩, [(!decide ((n1 : Int) = (n2 : Int))) = false, iter cfg 10 (exec cfg (callF cfg (run cfg n)) 10 n c10) n (fr10 u1 n1 c1 u2 n2 c2 0) = some (.ret, end10b u1 n1 c1 u2 n2 c2 i x y k)]) := by
  kernel_rfl

theorem loop10 (n : Nat) (u1 u2 : Bool) : ∀ (r1 r2 a1 a2 l1 l2 : List Int), l1 = a1 ++ r1 → l2 = a2 ++ r2 → a1.length = a2.length → r1.length = r2.length → l1.length ≤ 1000000 → ∀ m, r1.length < m →
    (r1 = r2 ∧ ∃ i, iter cfg 10 (exec cfg (callF cfg (run cfg n)) 10 n c10) m (fr10 u1 l1.length (l1.map i64) u2 l2.length (l2.map i64) a1.length) = some (.exit 0, end10a u1 l1.length (l1.map i64) u2 l2.length (l2.map i64) i)) ∨
    (r1 ≠ r2 ∧ ∃ i x y k, iter cfg 10 (exec cfg (callF cfg (run cfg n)) 10 n c10) m (fr10 u1 l1.length (l1.map i64) u2 l2.length (l2.map i64) a1.length) = some (.ret, end10b u1 l1.length (l1.map i64) u2 l2.length (l2.map i64) i x y k))
  | [], r2, a1, a2, l1, l2, h1, h2, ha, hr, hb, m, hm => by
    obtain ⟨m, rfl⟩ : ∃ k, m = k + 1 := ⟨m - 1, by omega⟩
    obtain rfl : r2 = [] := List.eq_nil_of_length_eq_zero hr.symm
    refine .inl ⟨rfl, a1.length, iter_last (last10a _ n u1 _ _ u2 _ _ _) ⟨decide_eq_false ?_, trivial⟩⟩
    rw [h1]; simp
  | x :: r1, r2, a1, a2, l1, l2, h1, h2, ha, hr, hb, m, hm => by
    obtain ⟨m, rfl⟩ : ∃ k, m = k + 1 := ⟨m - 1, by omega⟩
    cases r2 with
    | nil => simp at hr
    | cons y r2 =>
      have hlt : (a1.length : Int) < (l1.length : Int) := by rw [h1]; simp; omega
      have g1 := atInts (T := ⟨[], ⟨[], 0⟩⟩) u1 a1 x r1
      have g2 := atInts (T := ⟨[], ⟨[], 0⟩⟩) u2 a2 y r2
      rw [← h1] at g1
      rw [← h2, ← ha] at g2
      by_cases e : x = y
      · have ih := loop10 n u1 u2 r1 r2 (a1 ++ [x]) (a2 ++ [y]) l1 l2 (by rw [h1]; simp) (by rw [h2]; simp) (by simp [ha]) (by simpa using hr) hb m (by simp at hm; omega)
        have hrd := iter_round (m := m) (round10 (callF cfg (run cfg n)) n u1 l1.length (l1.map i64) u2 l2.length (l2.map i64) a1.length ((a1 ++ [x]).length) x y a1.length)
          ⟨decide_eq_true hlt, g1.1, g1.2, g2.1, g2.2, by simp [e], ⟨rfl, by rw [IntWalk.i64_in _ (by omega)]; simp⟩, trivial⟩
        rw [hrd]
        rcases ih with ⟨h, i, hi⟩ | ⟨h, i, x', y', k, hi⟩
        · exact .inl ⟨by rw [e, h], i, hi⟩
        · exact .inr ⟨by simp [h], i, x', y', k, hi⟩
      · refine .inr ⟨by simp [e], a1.length, x, y, a1.length, iter_last' (by simp) (last10b _ n u1 _ _ u2 _ _ _ _ _ _) ⟨decide_eq_true hlt, g1.1, g1.2, g2.1, g2.2, by simp [e], trivial⟩⟩

theorem ints10 (n : Nat) (u1 u2 : Bool) (l1 l2 : List Int) (hb : l1.length ≤ 20000) (hn : 25000 ≤ n) :
    run cfg n 10 [.sl u1 l1.length (l1.map i64), .sl u2 l2.length (l2.map i64)] ⟨[], 0⟩ = some (.s (.bool (decide (l1 = l2))), ⟨[], 0⟩) := by
  obtain ⟨n, rfl⟩ : ∃ k, n = k + 1 := ⟨n - 1, by omega⟩
  by_cases h : l1.length = l2.length
  · rcases loop10 n u1 u2 l1 l2 [] [] l1 l2 rfl rfl rfl h (by omega) n (by omega) with ⟨e, i, hi⟩ | ⟨e, i, x, y, k, hi⟩
    · rw [decide_eq_true e]
      exact askRun_ok (run10a n u1 _ _ u2 _ _ i) ⟨by simp [h], hi, trivial⟩
    · rw [decide_eq_false e]
      exact askRun_ok (run10b n u1 _ _ u2 _ _ i x y k) ⟨by simp [h], hi, trivial⟩
  · rw [decide_eq_false (fun e => h (by rw [e]))]
    exact run10l n u1 _ _ u2 _ _ (by omega)

/-! ### f12: two lists of numbers, place by place -/
noncomputable def c12 : Code := (((Tryd.f12).body).bind loopIn).getD .skip
def fr12 (u1 : Bool) (n1 : Nat) (c1 : List PV) (u2 : Bool) (n2 : Nat) (c2 : List PV) (i : Int) : Fr :=
  { regs := [(0, .v (.sl u1 n1 c1)), (1, .v (.sl u2 n2 c2)), (5, .v (i64 i))], st := ⟨[], ⟨[], 0⟩⟩, nt := 26 }

theorem round12 (call : CallFn) (n : Nat) (u1 : Bool) (n1 : Nat) (c1 : List PV) (u2 : Bool) (n2 : Nat) (c2 : List PV) (i i' x y : Int) (k : Nat) :
    (askExec cfg call 12 n [14, 19, 20, 23, 24, 25, 16] idl c12 ((fr12 u1 n1 c1 u2 n2 c2 i).clear cfg 12) [yes, .v (.cel c1 k), .v (i64 x), .v (.cel c2 k), .v (i64 y), no, .v (i64 i')]).map (fun z => (z.1, z.2.1.clear cfg 12, z.2.2.2)) =
    some (.normal, fr12 u1 n1 c1 u2 n2 c2 i', [decide (i < (n1 : Int)) = true,
      indexAddrO Tryd.prog ⟨[], ⟨[], 0⟩⟩ 22 (.v (.sl u1 n1 c1)) (i64 i) = some (.v (.cel c1 k)), loadO Tryd.prog ⟨[], ⟨[], 0⟩⟩ 3 (.v (.cel c1 k)) = some (i64 x),
      indexAddrO Tryd.prog ⟨[], ⟨[], 0⟩⟩ 22 (.v (.sl u2 n2 c2)) (i64 i) = some (.v (.cel c2 k)), loadO Tryd.prog ⟨[], ⟨[], 0⟩⟩ 3 (.v (.cel c2 k)) = some (i64 y),
      (!decide (x = y)) = false, IntKind.i64 = IntKind.i64 ∧ IntKind.i64.wrap (i + 1) = i']) := by
  kernel_rfl

noncomputable def end12a (u1 : Bool) (n1 : Nat) (c1 : List PV) (u2 : Bool) (n2 : Nat) (c2 : List PV) (i : Int) : Fr :=
  match askExec cfg (fun _ _ _ => none) 12 0 [14] idl c12 ((fr12 u1 n1 c1 u2 n2 c2 i).clear cfg 12) [no] with
  | some (_, F, _) => F
  | none => { regs := [], st := ⟨[], ⟨[], 0⟩⟩, nt := 0 }
noncomputable def end12b (u1 : Bool) (n1 : Nat) (c1 : List PV) (u2 : Bool) (n2 : Nat) (c2 : List PV) (i x y : Int) (k : Nat) : Fr :=
  match askExec cfg (fun _ _ _ => none) 12 0 [14, 19, 20, 23, 24, 25] idl c12 ((fr12 u1 n1 c1 u2 n2 c2 i).clear cfg 12) [yes, .v (.cel c1 k), .v (i64 x), .v (.cel c2 k), .v (i64 y), yes] with
  | some (_, F, _) => F
  | none => { regs := [], st := ⟨[], ⟨[], 0⟩⟩, nt := 0 }

theorem last12a (call : CallFn) (n : Nat) (u1 : Bool) (n1 : Nat) (c1 : List PV) (u2 : Bool) (n2 : Nat) (c2 : List PV) (i : Int) :
    askExec cfg call 12 n [14] idl c12 ((fr12 u1 n1 c1 u2 n2 c2 i).clear cfg 12) [no] = some (.exit 0, end12a u1 n1 c1 u2 n2 c2 i, [], [decide (i < (n1 : Int)) = false]) := by
  kernel_rfl
theorem last12b (call : CallFn) (n : Nat) (u1 : Bool) (n1 : Nat) (c1 : List PV) (u2 : Bool) (n2 : Nat) (c2 : List PV) (i x y : Int) (k : Nat) :
    askExec cfg call 12 n [14, 19, 20, 23, 24, 25] idl c12 ((fr12 u1 n1 c1 u2 n2 c2 i).clear cfg 12) [yes, .v (.cel c1 k), .v (i64 x), .v (.cel c2 k), .v (i64 y), yes] =
    some (.ret, end12b u1 n1 c1 u2 n2 c2 i x y k, [], [decide (i < (n1 : Int)) = true,
      indexAddrO Tryd.prog ⟨[], ⟨[], 0⟩⟩ 22 (.v (.sl u1 n1 c1)) (i64 i) = some (.v (.cel c1 k)), loadO Tryd.prog ⟨[], ⟨[], 0⟩⟩ 3 (.v (.cel c1 k)) = some (i64 x),
      indexAddrO Tryd.prog ⟨[], ⟨[], 0⟩⟩ 22 (.v (.sl u2 n2 c2)) (i64 i) = some (.v (.cel c2 k)), loadO Tryd.prog ⟨[], ⟨[], 0⟩⟩ 3 (.v (.cel c2 k)) = some (i64 y),
      (!decide (x = y)) = true]) := by
  kernel_rfl

theorem run12l (n : Nat) (u1 : Bool) (n1 : Nat) (c1 : List PV) (u2 : Bool) (n2 : Nat) (c2 : List PV) (h : (n1 : Int) ≠ n2) :
    run cfg (n + 1) 12 [.sl u1 n1 c1, .sl u2 n2 c2] ⟨[], 0⟩ = some (.s (.bool false), ⟨[], 0⟩) := by
  refine askRun_ok (ask := [10]) (lp := idl) (ys := [yes]) (l := [(!decide ((n1 : Int) = (n2 : Int))) = true]) ?_ ⟨by simpa using h, trivial⟩
  kernel_rfl
theorem run12a (n : Nat) (u1 : Bool) (n1 : Nat) (c1 : List PV) (u2 : Bool) (n2 : Nat) (c2 : List PV) (i : Int) :
    askRun cfg n 12 [10] (fun _ => (.exit 0, end12a u1 n1 c1 u2 n2 c2 i)) [.sl u1 n1 c1, .sl u2 n2 c2] ⟨[], 0⟩ [no] =
    some (.s (.bool true), ⟨[], 0⟩, [(!decide ((n1 : Int) = (n2 : Int))) = false, iter cfg 12 (exec cfg (callF cfg (run cfg n)) 12 n c12) n (fr12 u1 n1 c1 u2 n2 c2 0) = some (.exit 0, end12a u1 n1 c1 u2 n2 c2 i)]) := by
  kernel_rfl
theorem run12b (n : Nat) (u1 : Bool) (n1 : Nat) (c1 : List PV) (u2 : Bool) (n2 : Nat) (c2 : List PV) (i x y : Int) (k : Nat) :
    askRun cfg n 12 [10] (fun _ => (.ret, end12b u1 n1 c1 u2 n2 c2 i x y k)) [.sl u1 n1 c1, .sl u2 n2 c2] ⟨[], 0⟩ [no] =
    some (.s (.bool false), ⟨[], 0⟩, [(!decide ((n1 : Int) = (n2 : Int))) = false, iter cfg 12 (exec cfg (callF cfg (run cfg n)) 12 n c12) n (fr12 u1 n1 c1 u2 n2 c2 0) = some (.ret, end12b u1 n1 c1 u2 n2 c2 i x y k)]) := by
  kernel_rfl

theorem loop12 (n : Nat) (u1 u2 : Bool) : ∀ (r1 r2 a1 a2 l1 l2 : List Int), l1 = a1 ++ r1 → l2 = a2 ++ r2 → a1.length = a2.length → r1.length = r2.length → l1.length ≤ 1000000 → ∀ m, r1.length < m →
    (r1 = r2 ∧ ∃ i, iter cfg 12 (exec cfg (callF cfg (run cfg n)) 12 n c12) m (fr12 u1 l1.length (l1.map i64) u2 l2.length (l2.map i64) a1.length) = some (.exit 0, end12a u1 l1.length (l1.map i64) u2 l2.length (l2.map i64) i)) ∨
    (r1 ≠ r2 ∧ ∃ i x y k, iter cfg 12 (exec cfg (callF cfg (run cfg n)) 12 n c12) m (fr12 u1 l1.length (l1.map i64) u2 l2.length (l2.map i64) a1.length) = some (.ret, end12b u1 l1.length (l1.map i64) u2 l2.length (l2.map i64) i x y k))
  | [], r2, a1, a2, l1, l2, h1, h2, ha, hr, hb, m, hm => by
    obtain ⟨m, rfl⟩ : ∃ k, m = k + 1 := ⟨m - 1, by omega⟩
    obtain rfl : r2 = [] := List.eq_nil_of_length_eq_zero hr.symm
    refine .inl ⟨rfl, a1.length, iter_last (last12a _ n u1 _ _ u2 _ _ _) ⟨decide_eq_false ?_, trivial⟩⟩
    rw [h1]; simp
  | x :: r1, r2, a1, a2, l1, l2, h1, h2, ha, hr, hb, m, hm => by
    obtain ⟨m, rfl⟩ : ∃ k, m = k + 1 := ⟨m - 1, by omega⟩
    cases r2 with
    | nil => simp at hr
    | cons y r2 =>
      have hlt : (a1.length : Int) < (l1.length : Int) := by rw [h1]; simp; omega
      have g1 := atInts (T := ⟨[], ⟨[], 0⟩⟩) u1 a1 x r1
      have g2 := atInts (T := ⟨[], ⟨[], 0⟩⟩) u2 a2 y r2
      rw [← h1] at g1
      rw [← h2, ← ha] at g2
      by_cases e : x = y
      · have ih := loop12 n u1 u2 r1 r2 (a1 ++ [x]) (a2 ++ [y]) l1 l2 (by rw [h1]; simp) (by rw [h2]; simp) (by simp [ha]) (by simpa using hr) hb m (by simp at hm; omega)
        have hrd := iter_round (m := m) (round12 (callF cfg (run cfg n)) n u1 l1.length (l1.map i64) u2 l2.length (l2.map i64) a1.length ((a1 ++ [x]).length) x y a1.length)
          ⟨decide_eq_true hlt, g1.1, g1.2, g2.1, g2.2, by simp [e], ⟨rfl, by rw [IntWalk.i64_in _ (by omega)]; simp⟩, trivial⟩
        rw [hrd]
        rcases ih with ⟨h, i, hi⟩ | ⟨h, i, x', y', k, hi⟩
        · exact .inl ⟨by rw [e, h], i, hi⟩
        · exact .inr ⟨by simp [h], i, x', y', k, hi⟩
      · refine .inr ⟨by simp [e], a1.length, x, y, a1.length, iter_last' (by simp) (last12b _ n u1 _ _ u2 _ _ _ _ _ _) ⟨decide_eq_true hlt, g1.1, g1.2, g2.1, g2.2, by simp [e], trivial⟩⟩

theorem ints12 (n : Nat) (u1 u2 : Bool) (l1 l2 : List Int) (hb : l1.length ≤ 20000) (hn : 25000 ≤ n) :
    run cfg n 12 [.sl u1 l1.length (l1.map i64), .sl u2 l2.length (l2.map i64)] ⟨[], 0⟩ = some (.s (.bool (decide (l1 = l2))), ⟨[], 0⟩) := by
  obtain ⟨n, rfl⟩ : ∃ k, n = k + 1 := ⟨n - 1, by omega⟩
  by_cases h : l1.length = l2.length
  · rcases loop12 n u1 u2 l1 l2 [] [] l1 l2 rfl rfl rfl h (by omega) n (by omega) with ⟨e, i, hi⟩ | ⟨e, i, x, y, k, hi⟩
    · rw [decide_eq_true e]
      exact askRun_ok (run12a n u1 _ _ u2 _ _ i) ⟨by simp [h], hi, trivial⟩
    · rw [decide_eq_false e]
      exact askRun_ok (run12b n u1 _ _ u2 _ _ i x y k) ⟨by simp [h], hi, trivial⟩
  · rw [decide_eq_false (fun e => h (by rw [e]))]
    exact run12l n u1 _ _ u2 _ _ (by omega)

end Go.Proofs.YtmjnfdjhaopeiaaDoor
