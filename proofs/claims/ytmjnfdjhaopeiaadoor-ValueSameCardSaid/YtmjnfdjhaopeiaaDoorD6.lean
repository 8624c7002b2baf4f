/-
  A part of the proof: D6.
-/
import Derived.Test.YtmjnfdjhaopeiaaDoorD5
namespace Go.Proofs.YtmjnfdjhaopeiaaDoor
open Go Go.Pvm
set_option maxRecDepth 100000

theorem ok?_elim {r : Option (PV × Store)} (h : ok? r = true) : ∃ S, r = some (bl true, S) := by
  unfold ok? at h
  split at h
  · exact ⟨_, rfl⟩
  · cases h

theorem awake_any (n : Nat) : ok? (run cfg (n + 60) 5 [] ⟨[], 0⟩) = true := by kernel_rfl

theorem awake_call {n : Nat} (hn : 60 ≤ n) : callF cfg (run cfg n) 5 [] ⟨[], 0⟩ = some (bl true, ⟨[], 0⟩) := by
  obtain ⟨n, rfl⟩ : ∃ k, n = k + 60 := ⟨n - 60, by omega⟩
  obtain ⟨S, h⟩ := ok?_elim (awake_any n)
  exact callF_pure (by kernel_rfl) rfl h rfl

mutual
theorem same_refl : ∀ a : Vl, same a a = true
  | .mk N us ss ul l => by simp [same, sameL_refl l]
theorem sameL_refl : ∀ l : List Vl, sameL l l = true
  | [] => rfl
  | v :: r => by simp [sameL, same_refl v, sameL_refl r]
end
mutual
theorem same_comm : ∀ a b : Vl, same a b = same b a
  | .mk N us ss ul l, .mk N' us' ss' ul' l' => by
    simp only [same, sameL_comm l l']
    rw [show decide (N = N') = decide (N' = N) from decide_eq_decide.2 ⟨Eq.symm, Eq.symm⟩, show decide (ss = ss') = decide (ss' = ss) from decide_eq_decide.2 ⟨Eq.symm, Eq.symm⟩]
theorem sameL_comm : ∀ l r : List Vl, sameL l r = sameL r l
  | [], [] => rfl
  | [], _ :: _ => rfl
  | _ :: _, [] => rfl
  | v :: r, u :: q => by simp only [sameL, same_comm v u, sameL_comm r q]
end

def light (a : Vl) : Bool := decide (wt a 0 ≤ 20000)

variable (N N' : Int) (us us' ul ul' : Bool) (ns ns' nl nl' : Nat) (cs cs' cl cl' : List PV)
theorem run4 (n : Nat) (w : Int) (b : Bool) : askRun cfg n 4 [4, 5] idl [.agg (val N us ns cs ul nl cl)] ⟨[], 0⟩ [.v (i64 w), .v (bl b)] =
    some (bl b, ⟨[], 0⟩, [callF cfg (run cfg n) 8 [.agg (val N us ns cs ul nl cl), i64 0] ⟨[], 0⟩ = some (i64 w, ⟨[], 0⟩), decide (w ≤ 20000) = b]) := by
  kernel_rfl

theorem light4 (a : Vl) (n : Nat) (hn : 25030 ≤ n) : run cfg n 4 [.agg a.cells] ⟨[], 0⟩ = some (bl (light a), ⟨[], 0⟩) := by
  obtain ⟨n, rfl⟩ : ∃ k, n = k + 1 := ⟨n - 1, by omega⟩
  have h := callF_pure (C := cfg) (S := ⟨[], 0⟩) (by kernel_rfl) (by simp [pureL?, pure?, pure_cells]) (weigh_run a 0 n (by omega) (by omega) (by omega)) rfl
  obtain ⟨N, us, ss, ul, l⟩ := a
  exact askRun_ok (run4 N us ul _ _ _ _ n _ _) ⟨h, rfl, trivial⟩

theorem run3a (n : Nat) : askRun cfg n 3 [6, 13] idl [.agg (val N us ns cs ul nl cl), .agg (val N' us' ns' cs' ul' nl' cl')] ⟨[], 0⟩ [no, yes] =
    some (bl true, ⟨[], 0⟩, [callF cfg (run cfg n) 4 [.agg (val N us ns cs ul nl cl)] ⟨[], 0⟩ = some (bl false, ⟨[], 0⟩), callF cfg (run cfg n) 5 [] ⟨[], 0⟩ = some (bl true, ⟨[], 0⟩)]) := by
  kernel_rfl
theorem run3b (n : Nat) : askRun cfg n 3 [6, 10, 13] idl [.agg (val N us ns cs ul nl cl), .agg (val N' us' ns' cs' ul' nl' cl')] ⟨[], 0⟩ [yes, no, yes] =
    some (bl true, ⟨[], 0⟩, [callF cfg (run cfg n) 4 [.agg (val N us ns cs ul nl cl)] ⟨[], 0⟩ = some (bl true, ⟨[], 0⟩), callF cfg (run cfg n) 4 [.agg (val N' us' ns' cs' ul' nl' cl')] ⟨[], 0⟩ = some (bl false, ⟨[], 0⟩), callF cfg (run cfg n) 5 [] ⟨[], 0⟩ = some (bl true, ⟨[], 0⟩)]) := by
  kernel_rfl
theorem run3c (n : Nat) (b c : Bool) : askRun cfg n 3 [6, 10, 16, 20, 23, 24, 29, 32, 33, 36] idl [.agg (val N us ns cs ul nl cl), .agg (val N' us' ns' cs' ul' nl' cl')] ⟨[], 0⟩ [yes, yes, yes, .v (bl b), .v (bl b), yes, .v (bl c), .v (bl b), yes, yes] =
    some (bl true, ⟨[], 0⟩, [callF cfg (run cfg n) 4 [.agg (val N us ns cs ul nl cl)] ⟨[], 0⟩ = some (bl true, ⟨[], 0⟩), callF cfg (run cfg n) 4 [.agg (val N' us' ns' cs' ul' nl' cl')] ⟨[], 0⟩ = some (bl true, ⟨[], 0⟩),
      callF cfg (run cfg n) 6 [.agg (val N us ns cs ul nl cl), .agg (val N us ns cs ul nl cl)] ⟨[], 0⟩ = some (bl true, ⟨[], 0⟩),
      callF cfg (run cfg n) 6 [.agg (val N us ns cs ul nl cl), .agg (val N' us' ns' cs' ul' nl' cl')] ⟨[], 0⟩ = some (bl b, ⟨[], 0⟩),
      callF cfg (run cfg n) 7 [.agg (val N us ns cs ul nl cl), .agg (val N' us' ns' cs' ul' nl' cl')] ⟨[], 0⟩ = some (bl b, ⟨[], 0⟩), (b == b) = true,
      callF cfg (run cfg n) 6 [.agg (val N' us' ns' cs' ul' nl' cl'), .agg (val N us ns cs ul nl cl)] ⟨[], 0⟩ = some (bl c, ⟨[], 0⟩),
      callF cfg (run cfg n) 6 [.agg (val N us ns cs ul nl cl), .agg (val N' us' ns' cs' ul' nl' cl')] ⟨[], 0⟩ = some (bl b, ⟨[], 0⟩), (c == b) = true,
      callF cfg (run cfg n) 5 [] ⟨[], 0⟩ = some (bl true, ⟨[], 0⟩)]) := by
  kernel_rfl

theorem call4 (a : Vl) {n : Nat} (hn : 25030 ≤ n) : callF cfg (run cfg n) 4 [.agg a.cells] ⟨[], 0⟩ = some (bl (light a), ⟨[], 0⟩) :=
  callF_pure (by kernel_rfl) (by simp [pureL?, pure?, pure_cells]) (light4 a n hn) rfl
theorem call6 (a b : Vl) (ha : light a = true) {n : Nat} (hn : 26000 ≤ n) : callF cfg (run cfg n) 6 [.agg a.cells, .agg b.cells] ⟨[], 0⟩ = some (bl (same a b), ⟨[], 0⟩) :=
  callF_pure (by kernel_rfl) (by simp [pureL?, pure?, pure_cells]) (same6 a b 21 n (ok_of_wt a 0 21 rfl (of_decide_eq_true ha)) (by omega)) rfl
theorem call7 (a b : Vl) (ha : light a = true) {n : Nat} (hn : 26000 ≤ n) : callF cfg (run cfg n) 7 [.agg a.cells, .agg b.cells] ⟨[], 0⟩ = some (bl (same a b), ⟨[], 0⟩) :=
  callF_pure (by kernel_rfl) (by simp [pureL?, pure?, pure_cells]) (same7 a b 21 n (ok_of_wt a 0 21 rfl (of_decide_eq_true ha)) (by omega)) rfl

theorem valueSame_run (a b : Vl) : run cfg 30001 3 [.agg a.cells, .agg b.cells] ⟨[], 0⟩ = some (bl true, ⟨[], 0⟩) := by
  have ca := call4 a (n := 30000) (by omega)
  have cb := call4 b (n := 30000) (by omega)
  have c5 := awake_call (n := 30000) (by omega)
  cases la : light a with
  | false =>
    rw [la] at ca
    obtain ⟨N, us, ss, ul, l⟩ := a
    obtain ⟨N', us', ss', ul', l'⟩ := b
    exact askRun_ok (run3a N N' us us' ul ul' _ _ _ _ _ _ _ _ 30000) ⟨ca, c5, trivial⟩
  | true =>
    rw [la] at ca
    cases lb : light b with
    | false =>
      rw [lb] at cb
      obtain ⟨N, us, ss, ul, l⟩ := a
      obtain ⟨N', us', ss', ul', l'⟩ := b
      exact askRun_ok (run3b N N' us us' ul ul' _ _ _ _ _ _ _ _ 30000) ⟨ca, cb, c5, trivial⟩
    | true =>
      rw [lb] at cb
      have h1 := call6 a a la (n := 30000) (by omega)
      rw [same_refl] at h1
      have h2 := call6 a b la (n := 30000) (by omega)
      have h3 := call7 a b la (n := 30000) (by omega)
      have h4 := call6 b a lb (n := 30000) (by omega)
      rw [same_comm b a] at h4
      generalize same a b = s at h2 h3 h4
      obtain ⟨N, us, ss, ul, l⟩ := a
      obtain ⟨N', us', ss', ul', l'⟩ := b
      exact askRun_ok (run3c N N' us us' ul ul' _ _ _ _ _ _ _ _ 30000 s s) ⟨ca, cb, h1, h2, h3, by simp, h4, h2, by simp, c5, trivial⟩
end Go.Proofs.YtmjnfdjhaopeiaaDoor
