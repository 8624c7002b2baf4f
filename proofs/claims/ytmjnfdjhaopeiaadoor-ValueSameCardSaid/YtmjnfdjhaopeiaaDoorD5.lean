/-
  A part of the proof: D5.
-/
import Derived.Test.YtmjnfdjhaopeiaaDoorD4
namespace Go.Proofs.YtmjnfdjhaopeiaaDoor
open Go Go.Pvm
set_option maxRecDepth 100000
variable (N N' : Int) (us us' ul ul' : Bool) (ns ns' nl nl' : Nat) (cs cs' cl cl' : List PV)
variable (M M' : Int) (vs vs' vl vl' : Bool) (ms ms' ml ml' : Nat) (ds ds' dl dl' : List PV)

noncomputable def c7 : Code := (((Tryd.f7).body).bind loopIn).getD .skip
def st7 : LS := ⟨[(2, val N us ns cs ul nl cl), (3, val N' us' ns' cs' ul' nl' cl')], ⟨[], 0⟩⟩
def fr7 (i : Int) : Fr := { regs := [(2, .loc 2 0), (3, .loc 3 0), (5, .v (i64 i))], st := st7 N N' us us' ul ul' ns ns' nl nl' cs cs' cl cl', nt := 47 }

theorem run7a (n : Nat) : askRun cfg n 7 [10] idl [.agg (val N us ns cs ul nl cl), .agg (val N' us' ns' cs' ul' nl' cl')] ⟨[], 0⟩ [yes] =
    some (bl false, ⟨[], 0⟩, [(!decide (N = N')) = true]) := by
  kernel_rfl
theorem run7b (n : Nat) : askRun cfg n 7 [10, 16] idl [.agg (val N us ns cs ul nl cl), .agg (val N' us' ns' cs' ul' nl' cl')] ⟨[], 0⟩ [no, no] =
    some (bl false, ⟨[], 0⟩, [(!decide (N = N')) = false, callF cfg (run cfg n) 12 [.sl us ns cs, .sl us' ns' cs'] ⟨[], 0⟩ = some (bl false, ⟨[], 0⟩)]) := by
  kernel_rfl
theorem run7c (n : Nat) : askRun cfg n 7 [10, 16, 26] idl [.agg (val N us ns cs ul nl cl), .agg (val N' us' ns' cs' ul' nl' cl')] ⟨[], 0⟩ [no, yes, yes] =
    some (bl false, ⟨[], 0⟩, [(!decide (N = N')) = false, callF cfg (run cfg n) 12 [.sl us ns cs, .sl us' ns' cs'] ⟨[], 0⟩ = some (bl true, ⟨[], 0⟩), (!decide ((nl : Int) = (nl' : Int))) = true]) := by
  kernel_rfl

theorem round7 (call : CallFn) (n : Nat) (i i' : Int) (k : Nat) :
    (askExec cfg call 7 n [32, 38, 39, 43, 44, 45, 34] idl c7 ((fr7 N N' us us' ul ul' ns ns' nl nl' cs cs' cl cl' i).clear cfg 7)
      [yes, .v (.cel cl k), .v (.agg (val M vs ms ds vl ml dl)), .v (.cel cl' k), .v (.agg (val M' vs' ms' ds' vl' ml' dl')), yes, .v (i64 i')]).map (fun z => (z.1, z.2.1.clear cfg 7, z.2.2.2)) =
    some (.normal, fr7 N N' us us' ul ul' ns ns' nl nl' cs cs' cl cl' i', [decide (i < (nl : Int)) = true,
      indexAddrO Tryd.prog (st7 N N' us us' ul ul' ns ns' nl nl' cs cs' cl cl') 23 (.v (.sl ul nl cl)) (i64 i) = some (.v (.cel cl k)), loadO Tryd.prog (st7 N N' us us' ul ul' ns ns' nl nl' cs cs' cl cl') 25 (.v (.cel cl k)) = some (.agg (val M vs ms ds vl ml dl)),
      indexAddrO Tryd.prog (st7 N N' us us' ul ul' ns ns' nl nl' cs cs' cl cl') 23 (.v (.sl ul' nl' cl')) (i64 i) = some (.v (.cel cl' k)), loadO Tryd.prog (st7 N N' us us' ul ul' ns ns' nl nl' cs cs' cl cl') 25 (.v (.cel cl' k)) = some (.agg (val M' vs' ms' ds' vl' ml' dl')),
      call 7 [.agg (val M vs ms ds vl ml dl), .agg (val M' vs' ms' ds' vl' ml' dl')] ⟨[], 0⟩ = some (bl true, ⟨[], 0⟩), IntKind.i64 = IntKind.i64 ∧ IntKind.i64.wrap (i + 1) = i']) := by
  kernel_rfl

noncomputable def end7a (i : Int) : Fr :=
  match askExec cfg (fun _ _ _ => none) 7 0 [32] idl c7 ((fr7 N N' us us' ul ul' ns ns' nl nl' cs cs' cl cl' i).clear cfg 7) [no] with
  | some (_, F, _) => F
  | none => { regs := [], st := ⟨[], ⟨[], 0⟩⟩, nt := 0 }
noncomputable def end7b (i : Int) (k : Nat) : Fr :=
  match askExec cfg (fun _ _ _ => none) 7 0 [32, 38, 39, 43, 44, 45] idl c7 ((fr7 N N' us us' ul ul' ns ns' nl nl' cs cs' cl cl' i).clear cfg 7)
      [yes, .v (.cel cl k), .v (.agg (val M vs ms ds vl ml dl)), .v (.cel cl' k), .v (.agg (val M' vs' ms' ds' vl' ml' dl')), no] with
  | some (_, F, _) => F
  | none => { regs := [], st := ⟨[], ⟨[], 0⟩⟩, nt := 0 }

theorem last7a (call : CallFn) (n : Nat) (i : Int) :
    askExec cfg call 7 n [32] idl c7 ((fr7 N N' us us' ul ul' ns ns' nl nl' cs cs' cl cl' i).clear cfg 7) [no] =
    some (.exit 0, end7a N N' us us' ul ul' ns ns' nl nl' cs cs' cl cl' i, [], [decide (i < (nl : Int)) = false]) := by
  kernel_rfl
theorem last7b (call : CallFn) (n : Nat) (i : Int) (k : Nat) :
    askExec cfg call 7 n [32, 38, 39, 43, 44, 45] idl c7 ((fr7 N N' us us' ul ul' ns ns' nl nl' cs cs' cl cl' i).clear cfg 7)
      [yes, .v (.cel cl k), .v (.agg (val M vs ms ds vl ml dl)), .v (.cel cl' k), .v (.agg (val M' vs' ms' ds' vl' ml' dl')), no] =
    some (.ret, end7b N N' us us' ul ul' ns ns' nl nl' cs cs' cl cl' M M' vs vs' vl vl' ms ms' ml ml' ds ds' dl dl' i k, [], [decide (i < (nl : Int)) = true,
      indexAddrO Tryd.prog (st7 N N' us us' ul ul' ns ns' nl nl' cs cs' cl cl') 23 (.v (.sl ul nl cl)) (i64 i) = some (.v (.cel cl k)), loadO Tryd.prog (st7 N N' us us' ul ul' ns ns' nl nl' cs cs' cl cl') 25 (.v (.cel cl k)) = some (.agg (val M vs ms ds vl ml dl)),
      indexAddrO Tryd.prog (st7 N N' us us' ul ul' ns ns' nl nl' cs cs' cl cl') 23 (.v (.sl ul' nl' cl')) (i64 i) = some (.v (.cel cl' k)), loadO Tryd.prog (st7 N N' us us' ul ul' ns ns' nl nl' cs cs' cl cl') 25 (.v (.cel cl' k)) = some (.agg (val M' vs' ms' ds' vl' ml' dl')),
      call 7 [.agg (val M vs ms ds vl ml dl), .agg (val M' vs' ms' ds' vl' ml' dl')] ⟨[], 0⟩ = some (bl false, ⟨[], 0⟩)]) := by
  kernel_rfl

theorem run7d (n : Nat) (i : Int) : askRun cfg n 7 [10, 16, 26] (fun _ => (.exit 0, end7a N N' us us' ul ul' ns ns' nl nl' cs cs' cl cl' i)) [.agg (val N us ns cs ul nl cl), .agg (val N' us' ns' cs' ul' nl' cl')] ⟨[], 0⟩ [no, yes, no] =
    some (bl true, ⟨[], 0⟩, [(!decide (N = N')) = false, callF cfg (run cfg n) 12 [.sl us ns cs, .sl us' ns' cs'] ⟨[], 0⟩ = some (bl true, ⟨[], 0⟩), (!decide ((nl : Int) = (nl' : Int))) = false,
      iter cfg 7 (exec cfg (callF cfg (run cfg n)) 7 n c7) n (fr7 N N' us us' ul ul' ns ns' nl nl' cs cs' cl cl' 0) = some (.exit 0, end7a N N' us us' ul ul' ns ns' nl nl' cs cs' cl cl' i)]) := by
  kernel_rfl
theorem run7e (n : Nat) (i : Int) (k : Nat) : askRun cfg n 7 [10, 16, 26] (fun _ => (.ret, end7b N N' us us' ul ul' ns ns' nl nl' cs cs' cl cl' M M' vs vs' vl vl' ms ms' ml ml' ds ds' dl dl' i k)) [.agg (val N us ns cs ul nl cl), .agg (val N' us' ns' cs' ul' nl' cl')] ⟨[], 0⟩ [no, yes, no] =
    some (bl false, ⟨[], 0⟩, [(!decide (N = N')) = false, callF cfg (run cfg n) 12 [.sl us ns cs, .sl us' ns' cs'] ⟨[], 0⟩ = some (bl true, ⟨[], 0⟩), (!decide ((nl : Int) = (nl' : Int))) = false,
      iter cfg 7 (exec cfg (callF cfg (run cfg n)) 7 n c7) n (fr7 N N' us us' ul ul' ns ns' nl nl' cs cs' cl cl' 0) = some (.ret, end7b N N' us us' ul ul' ns ns' nl nl' cs cs' cl cl' M M' vs vs' vl vl' ms ms' ml ml' ds ds' dl dl' i k)]) := by
  kernel_rfl

/-- How the loop of f7 ends. -/
def Ends7 (n m : Nat) (N N' : Int) (us us' ul ul' : Bool) (ns ns' : Nat) (cs cs' : List PV) (l1 l2 : List Vl) (i : Int) (b : Bool) : Prop :=
  (b = true ∧ ∃ j, iter cfg 7 (exec cfg (callF cfg (run cfg n)) 7 n c7) m (fr7 N N' us us' ul ul' ns ns' l1.length l2.length cs cs' (cellsL l1) (cellsL l2) i) = some (.exit 0, end7a N N' us us' ul ul' ns ns' l1.length l2.length cs cs' (cellsL l1) (cellsL l2) j)) ∨
  (b = false ∧ ∃ M M' vs vs' vl vl' ms ms' ml ml' ds ds' dl dl' j k, iter cfg 7 (exec cfg (callF cfg (run cfg n)) 7 n c7) m (fr7 N N' us us' ul ul' ns ns' l1.length l2.length cs cs' (cellsL l1) (cellsL l2) i) =
    some (.ret, end7b N N' us us' ul ul' ns ns' l1.length l2.length cs cs' (cellsL l1) (cellsL l2) M M' vs vs' vl vl' ms ms' ml ml' ds ds' dl dl' j k))

mutual
theorem same7 : ∀ (a b : Vl) (d n : Nat), okV a d → 25000 + 2 * d ≤ n → run cfg n 7 [.agg a.cells, .agg b.cells] ⟨[], 0⟩ = some (bl (same a b), ⟨[], 0⟩)
  | .mk N us ss ul l, .mk N' us' ss' ul' l', d, n, ⟨h1, h2, h3, h4⟩, hn => by
    obtain ⟨n, rfl⟩ : ∃ k, n = k + 1 := ⟨n - 1, by omega⟩
    simp only [Vl.cells, same]
    by_cases c1 : N = N'
    · have e1 : decide (N = N') = true := decide_eq_true c1
      have hc12 : callF cfg (run cfg n) 12 [.sl us ss.length (ss.map i64), .sl us' ss'.length (ss'.map i64)] ⟨[], 0⟩ = some (bl (decide (ss = ss')), ⟨[], 0⟩) :=
        callF_pure (by kernel_rfl) rfl (ints12 n us us' ss ss' h1 (by omega)) rfl
      by_cases c2 : ss = ss'
      · have e2 : decide (ss = ss') = true := decide_eq_true c2
        rw [e2] at hc12
        rw [e1, e2]
        by_cases e : l.length = l'.length
        · have hl := loop7 l l' [] [] l l' rfl rfl rfl e N N' us us' ul ul' ss.length ss'.length (ss.map i64) (ss'.map i64) (d - 1) n h4 h2 (by omega) n (by omega)
          rcases hl with ⟨hb, j, hi⟩ | ⟨hb, M, M', vs, vs', vl, vl', ms, ms', ml, ml', ds, ds', dl, dl', j, k, hi⟩
          · rw [hb]
            exact askRun_ok (run7d N N' us us' ul ul' _ _ _ _ _ _ _ _ n j) ⟨by simp [e1], hc12, by simp [e], hi, trivial⟩
          · rw [hb]
            exact askRun_ok (run7e N N' us us' ul ul' _ _ _ _ _ _ _ _ M M' vs vs' vl vl' ms ms' ml ml' ds ds' dl dl' n j k) ⟨by simp [e1], hc12, by simp [e], hi, trivial⟩
        · have hb : sameL l l' = false := by
            cases hq : sameL l l' with
            | false => rfl
            | true => exact absurd (sameL_len hq) e
          rw [hb]
          exact askRun_ok (run7c N N' us us' ul ul' _ _ _ _ _ _ _ _ n) ⟨by simp [e1], hc12, by simp; omega, trivial⟩
      · have e2 : decide (ss = ss') = false := decide_eq_false c2
        rw [e2] at hc12
        rw [e1, e2]
        exact askRun_ok (run7b N N' us us' ul ul' _ _ _ _ _ _ _ _ n) ⟨by simp [e1], hc12, trivial⟩
    · have e1 : decide (N = N') = false := decide_eq_false c1
      rw [e1]
      exact askRun_ok (run7a N N' us us' ul ul' _ _ _ _ _ _ _ _ n) ⟨by simp [e1], trivial⟩
theorem loop7 : ∀ (r1 r2 a1 a2 l1 l2 : List Vl), l1 = a1 ++ r1 → l2 = a2 ++ r2 → a1.length = a2.length → r1.length = r2.length → ∀ (N N' : Int) (us us' ul ul' : Bool) (ns ns' : Nat) (cs cs' : List PV) (d n : Nat), okL r1 d → l1.length ≤ 20000 → 25000 + 2 * d ≤ n →
    ∀ m, r1.length < m → Ends7 n m N N' us us' ul ul' ns ns' cs cs' l1 l2 a1.length (sameL r1 r2)
  | [], r2, a1, a2, l1, l2, h1, h2, ha, hr, N, N', us, us', ul, ul', ns, ns', cs, cs', d, n, hok, hl, hn, m, hm => by
    obtain ⟨m, rfl⟩ : ∃ k, m = k + 1 := ⟨m - 1, by omega⟩
    obtain rfl : r2 = [] := List.eq_nil_of_length_eq_zero hr.symm
    refine .inl ⟨rfl, a1.length, iter_last (last7a N N' us us' ul ul' _ _ _ _ _ _ _ _ _ n _) ⟨decide_eq_false ?_, trivial⟩⟩
    rw [h1]; simp
  | x :: r1, r2, a1, a2, l1, l2, h1, h2, ha, hr, N, N', us, us', ul, ul', ns, ns', cs, cs', d, n, hok, hl, hn, m, hm => by
    obtain ⟨m, rfl⟩ : ∃ k, m = k + 1 := ⟨m - 1, by omega⟩
    cases r2 with
    | nil => simp at hr
    | cons y r2 =>
      have hlt : (a1.length : Int) < (l1.length : Int) := by rw [h1]; simp; omega
      have g1 := fun T => at8 T ul a1 x r1
      have g2 := fun T => at8 T ul' a2 y r2
      rw [← h1] at g1
      rw [← h2, ← ha] at g2
      have hc := callF_pure (C := cfg) (S := ⟨[], 0⟩) (by kernel_rfl) (by simp [pureL?, pure?, pure_cells]) (same7 x y d n hok.1 hn) rfl
      have ih := loop7 r1 r2 (a1 ++ [x]) (a2 ++ [y]) l1 l2 (by rw [h1]; simp) (by rw [h2]; simp) (by simp [ha]) (by simpa using hr) N N' us us' ul ul' ns ns' cs cs' d n hok.2 hl hn m (by simp at hm; omega)
      obtain ⟨M, vs, ss, vl, l⟩ := x
      obtain ⟨M', vs', ss', vl', l'⟩ := y
      simp only [sameL]
      cases hs : same (.mk M vs ss vl l) (.mk M' vs' ss' vl' l') with
      | true =>
        rw [hs] at hc
        have hrd := iter_round (m := m) (round7 N N' us us' ul ul' ns ns' l1.length l2.length cs cs' (cellsL l1) (cellsL l2) M M' vs vs' vl vl' _ _ _ _ _ _ _ _ (callF cfg (run cfg n)) n a1.length ((a1 ++ [Vl.mk M vs ss vl l]).length) (a1.length * 3))
          ⟨decide_eq_true hlt, (g1 _).1, (g1 _).2, (g2 _).1, (g2 _).2, hc, ⟨rfl, by rw [IntWalk.i64_in _ (by omega)]; simp⟩, trivial⟩
        unfold Ends7 at ih ⊢
        rw [hrd]
        simpa using ih
      | false =>
        rw [hs] at hc
        refine .inr ⟨rfl, M, M', vs, vs', vl, vl', _, _, _, _, _, _, _, _, a1.length, a1.length * 3, iter_last' (by simp) (last7b N N' us us' ul ul' _ _ _ _ _ _ _ _ M M' vs vs' vl vl' _ _ _ _ _ _ _ _ _ n _ _) ⟨decide_eq_true hlt, (g1 _).1, (g1 _).2, (g2 _).1, (g2 _).2, hc, trivial⟩⟩
end
end Go.Proofs.YtmjnfdjhaopeiaaDoor
