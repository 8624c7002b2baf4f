/-
  A part of the proof: D4.
-/
import Derived.Test.YtmjnfdjhaopeiaaDoorD3
namespace Go.Proofs.YtmjnfdjhaopeiaaDoor
open Go Go.Pvm
set_option maxRecDepth 100000
abbrev bl (b : Bool) : PV := .s (.bool b)
variable (N N' : Int) (us us' ul ul' : Bool) (ns ns' nl nl' : Nat) (cs cs' cl cl' : List PV)

theorem run6a (n : Nat) : askRun cfg n 6 [9] idl [.agg (val N us ns cs ul nl cl), .agg (val N' us' ns' cs' ul' nl' cl')] ⟨[], 0⟩ [no] =
    some (bl false, ⟨[], 0⟩, [decide (N = N') = false]) := by
  kernel_rfl
theorem run6b (n : Nat) : askRun cfg n 6 [9, 15] idl [.agg (val N us ns cs ul nl cl), .agg (val N' us' ns' cs' ul' nl' cl')] ⟨[], 0⟩ [yes, no] =
    some (bl false, ⟨[], 0⟩, [decide (N = N') = true, callF cfg (run cfg n) 10 [.sl us ns cs, .sl us' ns' cs'] ⟨[], 0⟩ = some (bl false, ⟨[], 0⟩)]) := by
  kernel_rfl
theorem run6c (n : Nat) (b : Bool) : askRun cfg n 6 [9, 15, 22] idl [.agg (val N us ns cs ul nl cl), .agg (val N' us' ns' cs' ul' nl' cl')] ⟨[], 0⟩ [yes, yes, .v (bl b)] =
    some (bl b, ⟨[], 0⟩, [decide (N = N') = true, callF cfg (run cfg n) 10 [.sl us ns cs, .sl us' ns' cs'] ⟨[], 0⟩ = some (bl true, ⟨[], 0⟩),
      callF cfg (run cfg n) 11 [.sl ul nl cl, .sl ul' nl' cl', .fn (.func 6) [] []] ⟨[], 0⟩ = some (bl b, ⟨[], 0⟩)]) := by
  kernel_rfl

noncomputable def c11 : Code := (((Tryd.f11).body).bind loopIn).getD .skip
abbrev fn6 : PV := .fn (.func 6) [] []
def fr11 (u1 : Bool) (n1 : Nat) (c1 : List PV) (u2 : Bool) (n2 : Nat) (c2 : List PV) (i : Int) : Fr :=
  { regs := [(1, .v (.sl u2 n2 c2)), (2, .v fn6), (15, .v (.sl u1 n1 c1)), (16, .v (i64 n1)), (17, .v (i64 i))], st := ⟨[], ⟨[], 0⟩⟩, nt := 32 }

theorem round11 (call : CallFn) (n : Nat) (u1 : Bool) (n1 : Nat) (c1 : List PV) (u2 : Bool) (n2 : Nat) (c2 : List PV) (i i' : Int) (k : Nat) :
    (askExec cfg call 11 n [18, 20, 21, 24, 25, 29, 31] idl c11 ((fr11 u1 n1 c1 u2 n2 c2 i).clear cfg 11)
      [yes, .v (.cel c1 k), .v (.agg (val N us ns cs ul nl cl)), .v (.cel c2 k), .v (.agg (val N' us' ns' cs' ul' nl' cl')), yes, .v (i64 i')]).map (fun z => (z.1, z.2.1.clear cfg 11, z.2.2.2)) =
    some (.normal, fr11 u1 n1 c1 u2 n2 c2 i', [decide (i < (n1 : Int)) = true,
      indexAddrO Tryd.prog ⟨[], ⟨[], 0⟩⟩ 23 (.v (.sl u1 n1 c1)) (i64 i) = some (.v (.cel c1 k)), loadO Tryd.prog ⟨[], ⟨[], 0⟩⟩ 25 (.v (.cel c1 k)) = some (.agg (val N us ns cs ul nl cl)),
      indexAddrO Tryd.prog ⟨[(8, val N us ns cs ul nl cl)], ⟨[], 0⟩⟩ 23 (.v (.sl u2 n2 c2)) (i64 i) = some (.v (.cel c2 k)), loadO Tryd.prog ⟨[(8, val N us ns cs ul nl cl)], ⟨[], 0⟩⟩ 25 (.v (.cel c2 k)) = some (.agg (val N' us' ns' cs' ul' nl' cl')),
      call 6 [.agg (val N us ns cs ul nl cl), .agg (val N' us' ns' cs' ul' nl' cl')] ⟨[], 0⟩ = some (bl true, ⟨[], 0⟩), IntKind.i64 = IntKind.i64 ∧ IntKind.i64.wrap (i + 1) = i']) := by
  kernel_rfl

noncomputable def end11a (u1 : Bool) (n1 : Nat) (c1 : List PV) (u2 : Bool) (n2 : Nat) (c2 : List PV) (i : Int) : Fr :=
  match askExec cfg (fun _ _ _ => none) 11 0 [18] idl c11 ((fr11 u1 n1 c1 u2 n2 c2 i).clear cfg 11) [no] with
  | some (_, F, _) => F
  | none => { regs := [], st := ⟨[], ⟨[], 0⟩⟩, nt := 0 }
noncomputable def end11b (u1 : Bool) (n1 : Nat) (c1 : List PV) (u2 : Bool) (n2 : Nat) (c2 : List PV) (i : Int) (k : Nat) : Fr :=
  match askExec cfg (fun _ _ _ => none) 11 0 [18, 20, 21, 24, 25, 29] idl c11 ((fr11 u1 n1 c1 u2 n2 c2 i).clear cfg 11)
      [yes, .v (.cel c1 k), .v (.agg (val N us ns cs ul nl cl)), .v (.cel c2 k), .v (.agg (val N' us' ns' cs' ul' nl' cl')), no] with
  | some (_, F, _) => F
  | none => { regs := [], st := ⟨[], ⟨[], 0⟩⟩, nt := 0 }

theorem last11a (call : CallFn) (n : Nat) (u1 : Bool) (n1 : Nat) (c1 : List PV) (u2 : Bool) (n2 : Nat) (c2 : List PV) (i : Int) :
    askExec cfg call 11 n [18] idl c11 ((fr11 u1 n1 c1 u2 n2 c2 i).clear cfg 11) [no] = some (.exit 0, end11a u1 n1 c1 u2 n2 c2 i, [], [decide (i < (n1 : Int)) = false]) := by
  kernel_rfl
theorem last11b (call : CallFn) (n : Nat) (u1 : Bool) (n1 : Nat) (c1 : List PV) (u2 : Bool) (n2 : Nat) (c2 : List PV) (i : Int) (k : Nat) :
    askExec cfg call 11 n [18, 20, 21, 24, 25, 29] idl c11 ((fr11 u1 n1 c1 u2 n2 c2 i).clear cfg 11)
      [yes, .v (.cel c1 k), .v (.agg (val N us ns cs ul nl cl)), .v (.cel c2 k), .v (.agg (val N' us' ns' cs' ul' nl' cl')), no] =
    some (.ret, end11b N N' us us' ul ul' ns ns' nl nl' cs cs' cl cl' u1 n1 c1 u2 n2 c2 i k, [], [decide (i < (n1 : Int)) = true,
      indexAddrO Tryd.prog ⟨[], ⟨[], 0⟩⟩ 23 (.v (.sl u1 n1 c1)) (i64 i) = some (.v (.cel c1 k)), loadO Tryd.prog ⟨[], ⟨[], 0⟩⟩ 25 (.v (.cel c1 k)) = some (.agg (val N us ns cs ul nl cl)),
      indexAddrO Tryd.prog ⟨[(8, val N us ns cs ul nl cl)], ⟨[], 0⟩⟩ 23 (.v (.sl u2 n2 c2)) (i64 i) = some (.v (.cel c2 k)), loadO Tryd.prog ⟨[(8, val N us ns cs ul nl cl)], ⟨[], 0⟩⟩ 25 (.v (.cel c2 k)) = some (.agg (val N' us' ns' cs' ul' nl' cl')),
      call 6 [.agg (val N us ns cs ul nl cl), .agg (val N' us' ns' cs' ul' nl' cl')] ⟨[], 0⟩ = some (bl false, ⟨[], 0⟩)]) := by
  kernel_rfl

theorem run11l (n : Nat) (u1 : Bool) (n1 : Nat) (c1 : List PV) (u2 : Bool) (n2 : Nat) (c2 : List PV) (h : (n1 : Int) ≠ n2) :
    run cfg (n + 1) 11 [.sl u1 n1 c1, .sl u2 n2 c2, fn6] ⟨[], 0⟩ = some (bl false, ⟨[], 0⟩) := by
  refine askRun_ok (ask := [14]) (lp := idl) (ys := [yes]) (l := [(!decide ((n1 : Int) = (n2 : Int))) = true]) ?_ ⟨by simpa using h, trivial⟩
  kernel_rfl
theorem run11a (n : Nat) (u1 : Bool) (n1 : Nat) (c1 : List PV) (u2 : Bool) (n2 : Nat) (c2 : List PV) (i : Int) :
    askRun cfg n 11 [14] (fun _ => (.exit 0, end11a u1 n1 c1 u2 n2 c2 i)) [.sl u1 n1 c1, .sl u2 n2 c2, fn6] ⟨[], 0⟩ [no] =
    some (bl true, ⟨[], 0⟩, [(!decide ((n1 : Int) = (n2 : Int))) = false, iter cfg 11 (exec cfg (callF cfg (run cfg n)) 11 n c11) n (fr11 u1 n1 c1 u2 n2 c2 0) = some (.exit 0, end11a u1 n1 c1 u2 n2 c2 i)]) := by
  kernel_rfl
theorem run11b (n : Nat) (u1 : Bool) (n1 : Nat) (c1 : List PV) (u2 : Bool) (n2 : Nat) (c2 : List PV) (i : Int) (k : Nat) :
    askRun cfg n 11 [14] (fun _ => (.ret, end11b N N' us us' ul ul' ns ns' nl nl' cs cs' cl cl' u1 n1 c1 u2 n2 c2 i k)) [.sl u1 n1 c1, .sl u2 n2 c2, fn6] ⟨[], 0⟩ [no] =
    some (bl false, ⟨[], 0⟩, [(!decide ((n1 : Int) = (n2 : Int))) = false, iter cfg 11 (exec cfg (callF cfg (run cfg n)) 11 n c11) n (fr11 u1 n1 c1 u2 n2 c2 0) = some (.ret, end11b N N' us us' ul ul' ns ns' nl nl' cs cs' cl cl' u1 n1 c1 u2 n2 c2 i k)]) := by
  kernel_rfl

theorem sameL_len : ∀ {a b : List Vl}, sameL a b = true → a.length = b.length
  | [], [], _ => rfl
  | [], _ :: _, h => by simp [sameL] at h
  | _ :: _, [], h => by simp [sameL] at h
  | x :: a, y :: b, h => by simp only [sameL, Bool.and_eq_true] at h; simp [sameL_len h.2]

/-- How the loop of f11 ends. -/
def Ends11 (n m : Nat) (u1 u2 : Bool) (l1 l2 : List Vl) (i : Int) (b : Bool) : Prop :=
  (b = true ∧ ∃ j, iter cfg 11 (exec cfg (callF cfg (run cfg n)) 11 n c11) m (fr11 u1 l1.length (cellsL l1) u2 l2.length (cellsL l2) i) = some (.exit 0, end11a u1 l1.length (cellsL l1) u2 l2.length (cellsL l2) j)) ∨
  (b = false ∧ ∃ N N' us us' ul ul' ns ns' nl nl' cs cs' cl cl' j k, iter cfg 11 (exec cfg (callF cfg (run cfg n)) 11 n c11) m (fr11 u1 l1.length (cellsL l1) u2 l2.length (cellsL l2) i) =
    some (.ret, end11b N N' us us' ul ul' ns ns' nl nl' cs cs' cl cl' u1 l1.length (cellsL l1) u2 l2.length (cellsL l2) j k))

theorem eq11 {n : Nat} {u1 u2 : Bool} {l1 l2 : List Vl} (h : l1.length = l2.length → Ends11 n n u1 u2 l1 l2 0 (sameL l1 l2)) :
    run cfg (n + 1) 11 [.sl u1 l1.length (cellsL l1), .sl u2 l2.length (cellsL l2), fn6] ⟨[], 0⟩ = some (bl (sameL l1 l2), ⟨[], 0⟩) := by
  by_cases e : l1.length = l2.length
  · rcases h e with ⟨hb, j, hi⟩ | ⟨hb, N, N', us, us', ul, ul', ns, ns', nl, nl', cs, cs', cl, cl', j, k, hi⟩
    · rw [hb]
      exact askRun_ok (run11a n u1 _ _ u2 _ _ j) ⟨by simp [e], hi, trivial⟩
    · rw [hb]
      exact askRun_ok (run11b N N' us us' ul ul' ns ns' nl nl' cs cs' cl cl' n u1 _ _ u2 _ _ j k) ⟨by simp [e], hi, trivial⟩
  · have hb : sameL l1 l2 = false := by
      cases hq : sameL l1 l2 with
      | false => rfl
      | true => exact absurd (sameL_len hq) e
    rw [hb]
    exact run11l n u1 _ _ u2 _ _ (by omega)

mutual
theorem same6 : ∀ (a b : Vl) (d n : Nat), okV a d → 25000 + 2 * d ≤ n → run cfg n 6 [.agg a.cells, .agg b.cells] ⟨[], 0⟩ = some (bl (same a b), ⟨[], 0⟩)
  | .mk N us ss ul l, .mk N' us' ss' ul' l', d, n, ⟨h1, h2, h3, h4⟩, hn => by
    obtain ⟨n, rfl⟩ : ∃ k, n = k + 1 + 1 := ⟨n - 2, by omega⟩
    simp only [Vl.cells, same]
    by_cases c1 : N = N'
    · have e1 : decide (N = N') = true := decide_eq_true c1
      have hc10 : callF cfg (run cfg (n + 1)) 10 [.sl us ss.length (ss.map i64), .sl us' ss'.length (ss'.map i64)] ⟨[], 0⟩ = some (bl (decide (ss = ss')), ⟨[], 0⟩) :=
        callF_pure (by kernel_rfl) rfl (ints10 (n + 1) us us' ss ss' h1 (by omega)) rfl
      by_cases c2 : ss = ss'
      · have e2 : decide (ss = ss') = true := decide_eq_true c2
        rw [e2] at hc10
        have hc11 : callF cfg (run cfg (n + 1)) 11 [.sl ul l.length (cellsL l), .sl ul' l'.length (cellsL l'), fn6] ⟨[], 0⟩ = some (bl (sameL l l'), ⟨[], 0⟩) :=
          callF_pure (by kernel_rfl) rfl (eq11 fun e => loop11 l l' [] [] l l' rfl rfl rfl e ul ul' (d - 1) n h4 h2 (by omega) n (by omega)) rfl
        rw [e1, e2]
        exact askRun_ok (run6c N N' us us' ul ul' _ _ _ _ _ _ _ _ (n + 1) _) ⟨e1, hc10, hc11, trivial⟩
      · have e2 : decide (ss = ss') = false := decide_eq_false c2
        rw [e2] at hc10
        rw [e1, e2]
        exact askRun_ok (run6b N N' us us' ul ul' _ _ _ _ _ _ _ _ (n + 1)) ⟨e1, hc10, trivial⟩
    · have e1 : decide (N = N') = false := decide_eq_false c1
      rw [e1]
      exact askRun_ok (run6a N N' us us' ul ul' _ _ _ _ _ _ _ _ (n + 1)) ⟨e1, trivial⟩
theorem loop11 : ∀ (r1 r2 a1 a2 l1 l2 : List Vl), l1 = a1 ++ r1 → l2 = a2 ++ r2 → a1.length = a2.length → r1.length = r2.length → ∀ (u1 u2 : Bool) (d n : Nat), okL r1 d → l1.length ≤ 20000 → 25000 + 2 * d ≤ n →
    ∀ m, r1.length < m → Ends11 n m u1 u2 l1 l2 a1.length (sameL r1 r2)
  | [], r2, a1, a2, l1, l2, h1, h2, ha, hr, u1, u2, d, n, hok, hl, hn, m, hm => by
    obtain ⟨m, rfl⟩ : ∃ k, m = k + 1 := ⟨m - 1, by omega⟩
    obtain rfl : r2 = [] := List.eq_nil_of_length_eq_zero hr.symm
    refine .inl ⟨rfl, a1.length, iter_last (last11a _ n u1 _ _ u2 _ _ _) ⟨decide_eq_false ?_, trivial⟩⟩
    rw [h1]; simp
  | x :: r1, r2, a1, a2, l1, l2, h1, h2, ha, hr, u1, u2, d, n, hok, hl, hn, m, hm => by
    obtain ⟨m, rfl⟩ : ∃ k, m = k + 1 := ⟨m - 1, by omega⟩
    cases r2 with
    | nil => simp at hr
    | cons y r2 =>
      have hlt : (a1.length : Int) < (l1.length : Int) := by rw [h1]; simp; omega
      have g1 := fun T => at8 T u1 a1 x r1
      have g2 := fun T => at8 T u2 a2 y r2
      rw [← h1] at g1
      rw [← h2, ← ha] at g2
      have hc := callF_pure (C := cfg) (S := ⟨[], 0⟩) (by kernel_rfl) (by simp [pureL?, pure?, pure_cells]) (same6 x y d n hok.1 hn) rfl
      have ih := loop11 r1 r2 (a1 ++ [x]) (a2 ++ [y]) l1 l2 (by rw [h1]; simp) (by rw [h2]; simp) (by simp [ha]) (by simpa using hr) u1 u2 d n hok.2 hl hn m (by simp at hm; omega)
      obtain ⟨N, us, ss, ul, l⟩ := x
      obtain ⟨N', us', ss', ul', l'⟩ := y
      simp only [sameL]
      cases hs : same (.mk N us ss ul l) (.mk N' us' ss' ul' l') with
      | true =>
        rw [hs] at hc
        have hrd := iter_round (m := m) (round11 N N' us us' ul ul' _ _ _ _ _ _ _ _ (callF cfg (run cfg n)) n u1 l1.length (cellsL l1) u2 l2.length (cellsL l2) a1.length ((a1 ++ [Vl.mk N us ss ul l]).length) (a1.length * 3))
          ⟨decide_eq_true hlt, (g1 _).1, (g1 _).2, (g2 _).1, (g2 _).2, hc, ⟨rfl, by rw [IntWalk.i64_in _ (by omega)]; simp⟩, trivial⟩
        unfold Ends11 at ih ⊢
        rw [hrd]
        simpa using ih
      | false =>
        rw [hs] at hc
        refine .inr ⟨rfl, N, N', us, us', ul, ul', _, _, _, _, _, _, _, _, a1.length, a1.length * 3, iter_last' (by simp) (last11b N N' us us' ul ul' _ _ _ _ _ _ _ _ _ n u1 _ _ u2 _ _ _ _) ⟨decide_eq_true hlt, (g1 _).1, (g1 _).2, (g2 _).1, (g2 _).2, hc, trivial⟩⟩
end
end Go.Proofs.YtmjnfdjhaopeiaaDoor
