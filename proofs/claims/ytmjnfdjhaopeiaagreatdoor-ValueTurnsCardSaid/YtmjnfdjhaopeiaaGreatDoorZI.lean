/-
  A part of the proof: Z26, Z27.
-/
import Derived.Test.YtmjnfdjhaopeiaaGreatDoorZH
namespace Go.Proofs.YtmjnfdjhaopeiaaGreatDoor
open Go Go.Pvm
set_option maxRecDepth 100000

theorem ok_items {N : Int} {us : Bool} {Sv : List Int} {vl : Bool} {L : List Vl} {d : Nat} (h : okV (.mk N us Sv vl L) (d + 1)) : L.length ≤ 20000 ∧ ∀ w ∈ L, okV w d :=
  ⟨h.2.1, fun _ hw => okL_mem h.2.2.2 hw⟩
theorem ok_zero {v : Vl} (h : okV v 0) : False := by
  obtain ⟨N, us, Sv, vl, L⟩ := v
  obtain ⟨h1, h2, h3, h4⟩ := h
  omega

theorem handles_cl : ∀ (d : Nat) (t : Tt) (v : Vl) (n : Nat), OkT t → okV v d → ptT t v ≠ 0 → 25000 + 2 * d ≤ n → ∀ S, TN f_value_handles n t v S := by
  intro d
  induction d with
  | zero => intro t v n _ hv; exact (ok_zero hv).elim
  | succ d ih =>
    intro t v n ht hv hp hn S
    obtain ⟨n, rfl⟩ : ∃ k, n = k + 1 := ⟨n - 1, by omega⟩
    have hpu := pure_tv t v
    have hlen := hs_len v t ht hp
    have hle := (ptT_le v t).2
    have fin : Ret cfg (n + 1) f_value_handles [.agg t.cells, .agg v.cells] S0 (fun p T => ∃ u1 u2, frz T 9 p = some (.tup [.sl u1 (hs t v).length (aT (hs t v)), .sl u2 (hs t v).length (aN (hs t v))])) → TN f_value_handles (n + 1) t v S := by
      rintro ⟨p, T, hr, u1, u2, hf⟩
      exact ⟨u1, u2, cl_frz (by kernel_rfl) hpu hr hf⟩
    apply fin
    clear fin
    obtain ⟨N, us, Sv, vl, L⟩ := v
    obtain ⟨hL, hw⟩ := ok_items hv
    have hin : ∀ (i : Nat) (x : Tt), i < L.length → (insL t N L.length)[i]? = some x → ¬ (t.K = 20 ∨ t.K = 21) → insB t N L.length = true → ∀ S, cl n f_value_inner [.agg t.cells, .agg (Vl.mk N us Sv vl L).cells, i64 (i : Int)] S = some (.agg x.cells, S) :=
      fun i x hi hx hk hB S => inner_cl t (.mk N us Sv vl L) ht (by omega) hi hk hB hx S
    have hh : ∀ x ∈ insL t N L.length, ∀ w ∈ L, ptT x w ≠ 0 → ∀ S, TN f_value_handles n x w S := fun x hx w hw' h => ih x w n (insL_ok ht hx) (hw w hw') h (by omega)
    have hcase := pt_cases ht hp
    have hleaf : t.K = 20 ∨ t.K = 21 → hs t (.mk N us Sv vl L) = [(t, N)] := fun h => by conv => lhs; unfold hs; rw [if_pos h]
    have hnode : ¬ (t.K = 20 ∨ t.K = 21) → hs t (.mk N us Sv vl L) = hsL (insL t N L.length) L := fun h => by conv => lhs; unfold hs; rw [if_neg h]
    have c1 : tcells [t] = t.cells := tcells_one t
    generalize hI : insL t N L.length = I at *
    generalize hH : hs t (.mk N us Sv vl L) = H at *
    obtain ⟨K, un, nm, ul, l, R⟩ := t
    simp only [Tt.K] at hleaf hnode hcase hin
    have leaf : K = 20 ∨ K = 21 → ∃ u1 u2, frz S0 9 (.tup [.sl true 1 [i64 K, .sl un nm.length (nm.map str), .sl ul l.length (tcells l), i64 R], .sl true 1 [i64 N]]) = some (.tup [.sl u1 H.length (aT H), .sl u2 H.length (aN H)]) := fun h => by
      rw [hleaf h]
      refine ⟨true, true, ?_⟩
      show frz S0 9 _ = some (PV.tup [.sl true 1 (tcells [Tt.mk K un nm ul l R]), .sl true 1 [i64 N]])
      rw [c1]; rfl
    refine vc_value_handles n K un _ _ ul _ _ R N us _ _ vl _ _ _ (br_dec (fun k => leaf (.inl k)) fun k20 => br_dec (fun k => leaf (.inr k)) fun k21 => ?_)
    have eH := hnode (by omega)
    obtain ⟨m, rfl⟩ : ∃ k, n = k + 1 := ⟨n - 1, by omega⟩
    cases L with
    | nil =>
      rw [hsL_nil] at eH
      refine lp_value_handles_0 _ m K un _ _ ul _ _ R N us _ _ vl _ _ _ (br_dec (fun c => absurd c (by simp)) fun c => ⟨true, true, ?_⟩)
      rw [eH]; rfl
    | cons v0 r =>
      rcases hcase with h | ⟨_, hB, e1, e2⟩
      · cases h
      · rw [e1] at hp hlen
        cases I with
        | nil => exact (ptL_empty hp).elim
        | cons x q =>
          obtain ⟨p1, p2⟩ := ptL_step hp
          obtain ⟨u1, u2, hc⟩ := hh x (by simp) v0 (by simp) p1 S0
          have hin0 := hin 0 x (by simp) rfl (by omega) hB S0
          have hv0 := ld_V (l := v0 :: r) (i := 0) rfl
          have hi0 := idx_ok (n := (v0 :: r).length) (i := 0) (by simp) (cellsL_length (v0 :: r)) (k := 3) (by omega)
          rw [hsL_cons] at eH
          have e3 := ptT_le (.mk N us Sv vl (v0 :: r)) (.mk K un nm ul l R)
          have hlen' : (hs x v0).length + (hsL q r).length ≤ 4000 := by
            rw [eH, List.length_append] at hlen; omega
          have ih' := handles_lp1 (m + 1) K un nm ul l R N us Sv vl (v0 :: r) (x :: q) hL (fun p T => ∃ u1 u2, frz T 9 p = some (.tup [.sl u1 H.length (aT H), .sl u2 H.length (aN H)]))
            (fun i y hi hy => hin i y hi hy (by omega) hB) hh r q 1 m 0 (hs x v0) _ rfl rfl (by simp at hL; omega) p2 hlen' (fun ver => ⟨false, false, by rw [← eH]; exact frz_tn ver H⟩)
          have cT : (aT (hs x v0)).length = (hs x v0).length * 4 ∧ (aT (hs x v0)).all oneC = true ∧ true = true ∧ ([] : List PV).length = 0 * 4 ∧ ([] : List PV).all oneC = true ∧ (0 + (hs x v0).length) * 64 ≤ 140737488355328 ∧ 0 + (hs x v0).length ≤ 140737488355328 ∧ (0 = 0 ∨ 0 < (hs x v0).length) :=
            ⟨aT_len _, aT_one _, rfl, rfl, rfl, by omega, by omega, .inl rfl⟩
          have cN : (aN (hs x v0)).length = (hs x v0).length * 1 ∧ (aN (hs x v0)).all oneC = true ∧ true = true ∧ ([] : List PV).length = 0 * 1 ∧ ([] : List PV).all oneC = true ∧ (0 + (hs x v0).length) * 8 ≤ 140737488355328 ∧ 0 + (hs x v0).length ≤ 140737488355328 ∧ (0 = 0 ∨ 0 < (hs x v0).length) :=
            ⟨by rw [aN_len]; omega, aN_one _, rfl, rfl, rfl, by omega, by omega, .inl rfl⟩
          clear hh hin eH hlen' hlen e3 ih hw
          generalize hs x v0 = H0 at *
          refine lp_value_handles_0 _ m K un _ _ ul _ _ R N us _ _ vl _ _ _ (br_dec (fun c => ?_) fun c => absurd (by simp) c)
          obtain ⟨N', us', S', ul', L'⟩ := v0
          obtain ⟨K', un', nm', ul2, l', R'⟩ := x
          exact ⟨hi0, _, _, _, _, _, _, _, hv0, _, _, _, _, _, _, _, _, hin0, _, _, _, _, _, _, hc, cT, cN, by rw [Nat.zero_add]; exact ih'⟩
end Go.Proofs.YtmjnfdjhaopeiaaGreatDoor

namespace Go.Proofs.YtmjnfdjhaopeiaaGreatDoor
open Go Go.Pvm
set_option maxRecDepth 100000

/-! ### the other side -/
theorem RHandles_lp1 (n : Nat) (u : Bool) (ts : List Tt) (N : Int) (us : Bool) (Sv : List Int) (vl : Bool) (L : List Vl) (hL : L.length ≤ 20000) (Q : PV → Store → Prop)
    (hh : ∀ x ∈ ts, ∀ w ∈ L, ptT x w ≠ 0 → ∀ S, TN f_scarfref15_Handles n x w S) :
    ∀ (r : List Vl) (q : List Tt) (i m ver : Nat) (A : List (Tt × Int)) (acc : Int), L.drop i = r → ts.drop i = q → r.length < m → ptL q r acc ≠ 0 → A.length + (hsL q r).length ≤ 4000 →
      (∀ ver, Q (.tup [.bsl 0 ver 0 (A ++ hsL q r).length, .bsl 1 ver 0 (A ++ hsL q r).length]) ⟨[(1, ⟨ver, 1, aN (A ++ hsL q r)⟩), (0, ⟨ver, 4, aT (A ++ hsL q r)⟩)], 2⟩) →
      L_scarfref15_Handles_1 n m N us Sv.length (Sv.map i64) vl L.length (cellsL L) ver A.length A.length u ts.length (tcells ts) (i : Int) (aN A) (aT A) Q
  | [], q, i, m, ver, A, acc, hd, hq, hm, hp, hA, hQ => by
    obtain ⟨m, rfl⟩ : ∃ k, m = k + 1 := ⟨m - 1, by omega⟩
    have := drop_len hd
    simp only [List.length_nil] at this
    simp only [hsL_nil, List.append_nil] at hQ
    exact lp_scarfref15_Handles_1 n m N us _ _ vl _ _ ver _ _ u _ _ _ _ _ Q (br_dec (fun h => absurd h (by omega)) fun _ => hQ ver)
  | v :: r, [], i, m, ver, A, acc, hd, hq, hm, hp, hA, hQ => (ptL_empty hp).elim
  | v :: r, t :: q, i, m, ver, A, acc, hd, hq, hm, hp, hA, hQ => by
    obtain ⟨m, rfl⟩ : ∃ k, m = k + 1 := ⟨m - 1, by omega⟩
    obtain ⟨g1, g2, g3⟩ := drop_get hd
    obtain ⟨k1, k2, k3⟩ := drop_get hq
    obtain ⟨p1, p2⟩ := ptL_step hp
    have hv := ld_V g1
    have ht := ld_T k1
    have hi := idx_ok g3 (cellsL_length L) (k := 3) (by omega)
    have hj := idx_ok k3 (tcells_length ts) (k := 4) (by omega)
    obtain ⟨u1, u2, hc⟩ := hh t (List.mem_of_getElem? k1) v (List.mem_of_getElem? g1) p1 ⟨[(1, ⟨ver, 1, aN A⟩), (0, ⟨ver, 4, aT A⟩)], 2⟩
    rw [hsL_cons] at hQ hA
    rw [List.length_append] at hA
    have ih := fun a b => RHandles_lp1 n u ts N us Sv vl L hL Q hh r q (i + 1) m (ver + 1) (A ++ hs t v) (acc + ptT t v) g2 k2 (by simp at hm; omega) p2 a b
    rw [List.append_assoc, List.length_append] at ih
    have ih' := ih (by omega) hQ
    rw [aT_app, aN_app] at ih'
    have e1 : IntKind.i64.wrap ((i : Int) + 1) = ((i + 1 : Nat) : Int) := by rw [wrap64 (by omega)]; simp
    have t1 : List.take (A.length * 4) (aT A) = aT A := List.take_of_length_le (by rw [aT_len]; omega)
    have t2 : List.take (A.length * 1) (aN A) = aN A := List.take_of_length_le (by rw [aN_len]; omega)
    have cT : (aT (hs t v)).length = (hs t v).length * 4 ∧ (aT (hs t v)).all oneC = true ∧ ver = ver ∧ 0 = 0 ∧ 4 = 4 ∧ A.length * 4 ≤ (aT A).length ∧ (aT A).all oneC = true ∧ (A.length + (hs t v).length) * 64 ≤ 140737488355328 ∧ A.length + (hs t v).length ≤ 140737488355328 :=
      ⟨aT_len _, aT_one _, rfl, rfl, rfl, by rw [aT_len]; omega, aT_one _, by omega, by omega⟩
    have cN : (aN (hs t v)).length = (hs t v).length * 1 ∧ (aN (hs t v)).all oneC = true ∧ ver = ver ∧ 0 = 0 ∧ 1 = 1 ∧ A.length * 1 ≤ (aN A).length ∧ (aN A).all oneC = true ∧ (A.length + (hs t v).length) * 8 ≤ 140737488355328 ∧ A.length + (hs t v).length ≤ 140737488355328 :=
      ⟨by rw [aN_len]; omega, aN_one _, rfl, rfl, rfl, by rw [aN_len]; omega, aN_one _, by omega, by omega⟩
    rw [← e1] at ih'
    refine lp_scarfref15_Handles_1 n m N us _ _ vl _ _ ver _ _ u _ _ _ _ _ Q (br_dec (fun _ => br_dec (fun _ => ?_) fun h => absurd (by omega) h) fun h => absurd (by omega) h)
    clear ih hQ hh
    generalize hs t v = H at *
    obtain ⟨N', us', S', ul', L'⟩ := v
    obtain ⟨K', un', nm', ul2, l', R'⟩ := t
    rw [t1, t2]
    exact ⟨hj, _, _, _, _, _, _, _, _, ht, hi, _, _, _, _, _, _, _, hv, _, _, _, _, _, _, hc, cT, cN, ih'⟩

theorem RHandles_cl : ∀ (d : Nat) (t : Tt) (v : Vl) (n : Nat), OkT t → okV v d → ptT t v ≠ 0 → 25000 + 2 * d ≤ n → ∀ S, TN f_scarfref15_Handles n t v S := by
  intro d
  induction d with
  | zero => intro t v n _ hv; exact (ok_zero hv).elim
  | succ d ih =>
    intro t v n ht hv hp hn S
    obtain ⟨n, rfl⟩ : ∃ k, n = k + 1 := ⟨n - 1, by omega⟩
    have hpu := pure_tv t v
    have hlen := hs_len v t ht hp
    have hle := (ptT_le v t).2
    have hown := ht.own
    have fin : Ret cfg (n + 1) f_scarfref15_Handles [.agg t.cells, .agg v.cells] S0 (fun p T => ∃ u1 u2, frz T 9 p = some (.tup [.sl u1 (hs t v).length (aT (hs t v)), .sl u2 (hs t v).length (aN (hs t v))])) → TN f_scarfref15_Handles (n + 1) t v S := by
      rintro ⟨p, T, hr, u1, u2, hf⟩
      exact ⟨u1, u2, cl_frz (by kernel_rfl) hpu hr hf⟩
    apply fin
    clear fin
    obtain ⟨N, us, Sv, vl, L⟩ := v
    obtain ⟨hL, hw⟩ := ok_items hv
    obtain ⟨ui, hins⟩ := Inside_cl (n := n) t (.mk N us Sv vl L) ht hL (by omega) S0
    simp only [Vl.N, Vl.L] at hins
    have hh : ∀ x ∈ insL t N L.length, ∀ w ∈ L, ptT x w ≠ 0 → ∀ S, TN f_scarfref15_Handles n x w S := fun x hx w hw' h => ih x w n (insL_ok ht hx) (hw w hw') h (by omega)
    have hcase := pt_cases ht hp
    have hleaf : t.K = 20 ∨ t.K = 21 → hs t (.mk N us Sv vl L) = [(t, N)] := fun h => by conv => lhs; unfold hs; rw [if_pos h]
    have hnode : ¬ (t.K = 20 ∨ t.K = 21) → hs t (.mk N us Sv vl L) = hsL (insL t N L.length) L := fun h => by conv => lhs; unfold hs; rw [if_neg h]
    have c1 : tcells [t] = t.cells := tcells_one t
    generalize hI : insL t N L.length = I at *
    generalize hH : hs t (.mk N us Sv vl L) = H at *
    obtain ⟨K, un, nm, ul, l, R⟩ := t
    simp only [Tt.K, Tt.nm, Tt.l, Tt.R] at hleaf hnode hcase hown
    have leaf : K = 20 ∨ K = 21 → ∃ u1 u2, frz S0 9 (.tup [.sl true 1 [i64 K, .sl un nm.length (nm.map str), .sl ul l.length (tcells l), i64 R], .sl true 1 [i64 N]]) = some (.tup [.sl u1 H.length (aT H), .sl u2 H.length (aN H)]) := fun h => by
      rw [hleaf h]
      refine ⟨true, true, ?_⟩
      show frz S0 9 _ = some (PV.tup [.sl true 1 (tcells [Tt.mk K un nm ul l R]), .sl true 1 [i64 N]])
      rw [c1]; rfl
    refine vc_scarfref15_Handles n K un _ _ ul _ _ R N us _ _ vl _ _ _ (br_dec (fun k => leaf (by unfold OwnP at hown; omega)) fun k20 => ⟨_, _, _, _, hins, ?_⟩)
    have eH := hnode (by omega)
    obtain ⟨m, rfl⟩ : ∃ k, n = k + 1 := ⟨n - 1, by omega⟩
    cases L with
    | nil =>
      rw [hsL_nil] at eH
      refine lp_scarfref15_Handles_0 _ m N us _ _ vl _ _ _ _ _ _ (br_dec (fun c => absurd c (by simp)) fun c => ⟨true, true, ?_⟩)
      rw [eH]; rfl
    | cons v0 r =>
      rcases hcase with h | ⟨_, hB, e1, e2⟩
      · cases h
      · rw [e1] at hp hlen
        cases I with
        | nil => exact (ptL_empty hp).elim
        | cons x q =>
          obtain ⟨p1, p2⟩ := ptL_step hp
          obtain ⟨u1, u2, hc⟩ := hh x (by simp) v0 (by simp) p1 S0
          have hv0 := ld_V (l := v0 :: r) (i := 0) rfl
          have hx0 := ld_T (l := x :: q) (i := 0) rfl
          have hi0 := idx_ok (n := (v0 :: r).length) (i := 0) (by simp) (cellsL_length (v0 :: r)) (k := 3) (by omega)
          have hj0 := idx_ok (n := (x :: q).length) (i := 0) (by simp) (tcells_length (x :: q)) (k := 4) (by omega)
          rw [hsL_cons] at eH
          have e3 := ptT_le (.mk N us Sv vl (v0 :: r)) (.mk K un nm ul l R)
          have hlen' : (hs x v0).length + (hsL q r).length ≤ 4000 := by
            rw [eH, List.length_append] at hlen; omega
          have ih' := RHandles_lp1 (m + 1) ui (x :: q) N us Sv vl (v0 :: r) hL (fun p T => ∃ u1 u2, frz T 9 p = some (.tup [.sl u1 H.length (aT H), .sl u2 H.length (aN H)]))
            hh r q 1 m 0 (hs x v0) _ rfl rfl (by simp at hL; omega) p2 hlen' (fun ver => ⟨false, false, by rw [← eH]; exact frz_tn ver H⟩)
          have cT : (aT (hs x v0)).length = (hs x v0).length * 4 ∧ (aT (hs x v0)).all oneC = true ∧ true = true ∧ ([] : List PV).length = 0 * 4 ∧ ([] : List PV).all oneC = true ∧ (0 + (hs x v0).length) * 64 ≤ 140737488355328 ∧ 0 + (hs x v0).length ≤ 140737488355328 ∧ (0 = 0 ∨ 0 < (hs x v0).length) :=
            ⟨aT_len _, aT_one _, rfl, rfl, rfl, by omega, by omega, .inl rfl⟩
          have cN : (aN (hs x v0)).length = (hs x v0).length * 1 ∧ (aN (hs x v0)).all oneC = true ∧ true = true ∧ ([] : List PV).length = 0 * 1 ∧ ([] : List PV).all oneC = true ∧ (0 + (hs x v0).length) * 8 ≤ 140737488355328 ∧ 0 + (hs x v0).length ≤ 140737488355328 ∧ (0 = 0 ∨ 0 < (hs x v0).length) :=
            ⟨by rw [aN_len]; omega, aN_one _, rfl, rfl, rfl, by omega, by omega, .inl rfl⟩
          clear hh eH hlen' hlen e3 ih hw
          generalize hs x v0 = H0 at *
          refine lp_scarfref15_Handles_0 _ m N us _ _ vl _ _ _ _ _ _ (br_dec (fun c => br_dec (fun c' => ?_) fun c' => absurd (by simp) c') fun c => absurd (by simp) c)
          obtain ⟨N', us', S', ul', L'⟩ := v0
          obtain ⟨K', un', nm', ul2, l', R'⟩ := x
          exact ⟨hj0, _, _, _, _, _, _, _, _, hx0, hi0, _, _, _, _, _, _, _, hv0, _, _, _, _, _, _, hc, cT, cN, by rw [Nat.zero_add]; exact ih'⟩

/-! ### are values of a type -/
def chk (t : Tt) (v : Vl) : Int := if mayT t then (if ptT t v = 0 then 6 else 0) else 1

theorem VCheck_cl {n : Nat} (t : Tt) (v : Vl) (hf : t.fits) (hv : okV v 21) (hn : t.sz + 26000 ≤ n) (S : Store) : cl n f_value_Check [.agg t.cells, .agg v.cells] S = some (i64 (chk t v), S) := by
  obtain ⟨n, rfl⟩ : ∃ k, n = k + 1 := ⟨n - 1, by omega⟩
  have hpu := pure_tv t v
  have h1 := Check_cl (n := n) t hf (by omega) S0
  have h2 : mayT t = true → cl n f_value_parts [.agg t.cells, .agg v.cells] S0 = some (i64 (ptT t v), S0) := fun h => parts_cl' 21 t v n S0 (mayT_ok hf h) hv (by omega)
  have hle := (ptT_le v t).2
  unfold chk
  generalize mayT t = M at *
  generalize ptT t v = pt at *
  obtain ⟨K, un, nm, ul, l, R⟩ := t
  obtain ⟨N, us, Sv, vl, L⟩ := v
  refine cl_of (by kernel_rfl) hpu (Ret.eq (vc_value_Check n K un _ _ ul _ _ R N us _ _ vl _ _ _ ⟨_, h1, ?_⟩)) rfl
  cases M with
  | false => exact br_ndec (fun c => ⟨rfl, rfl⟩) fun c => absurd c (by simp)
  | true =>
    refine br_ndec (fun c => absurd rfl c) fun c => ⟨_, h2 rfl, br_dec (fun z => ?_) fun z => br_dec (fun c => by omega) fun c => ?_⟩
    · rw [if_pos rfl, if_pos z]; exact ⟨rfl, rfl⟩
    · rw [if_pos rfl, if_neg z]; exact ⟨rfl, rfl⟩
end Go.Proofs.YtmjnfdjhaopeiaaGreatDoor
