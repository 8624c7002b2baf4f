/-
  A part of the proof: Z24, Z25.
-/
import Derived.Test.YtmjnfdjhaopeiaaGreatDoorZ18
namespace Go.Proofs.YtmjnfdjhaopeiaaGreatDoor
open Go Go.Pvm
set_option maxRecDepth 100000

mutual
/-- The handles of a value: their types and numbers. -/
def hs (t : Tt) : Vl → List (Tt × Int)
  | .mk N _ _ _ L => if t.K = 20 ∨ t.K = 21 then [(t, N)] else hsL (insL t N L.length) L
def hsL (ts : List Tt) : List Vl → List (Tt × Int)
  | [] => []
  | v :: vs => match ts with
    | [] => []
    | t :: ts' => hs t v ++ hsL ts' vs
end
theorem hsL_nil (ts : List Tt) : hsL ts [] = [] := by unfold hsL; rfl
theorem hsL_cons (t : Tt) (ts : List Tt) (v : Vl) (vs : List Vl) : hsL (t :: ts) (v :: vs) = hs t v ++ hsL ts vs := by
  conv => lhs; unfold hsL
def aT (h : List (Tt × Int)) : List PV := tcells (h.map (·.1))
def aN (h : List (Tt × Int)) : List PV := h.map fun x => i64 x.2
theorem aT_len (h : List (Tt × Int)) : (aT h).length = h.length * 4 := by rw [aT, tcells_length, List.length_map]
theorem aN_len (h : List (Tt × Int)) : (aN h).length = h.length := by rw [aN, List.length_map]
theorem aT_app (a b : List (Tt × Int)) : aT (a ++ b) = aT a ++ aT b := by unfold aT; rw [List.map_append, tcells_append]
theorem aN_app (a b : List (Tt × Int)) : aN (a ++ b) = aN a ++ aN b := by unfold aN; rw [List.map_append]
theorem aT_one (h : List (Tt × Int)) : (aT h).all oneC = true := tcells_oneC _
theorem aT_solid (h : List (Tt × Int)) : (aT h).all solid = true := tcells_solid _
theorem aN_one (h : List (Tt × Int)) : (aN h).all oneC = true := by simp [aN, oneC, Value.oneCell']
theorem aN_solid (h : List (Tt × Int)) : (aN h).all solid = true := by simp [aN, solid]

theorem leafP_L {K : Int} {nm : Nat} {N : Int} {S : List Int} {L : Nat} {k : Int} (h : leafP K nm N S L = some k) (hk : k ≠ 0) : L = 0 := by
  unfold leafP at h
  split at h
  · obtain rfl := Option.some.inj h
    split at hk
    · omega
    · exact absurd rfl hk
  · split at h
    · obtain rfl := Option.some.inj h
      split at hk
      · rename_i c; exact c.2.2
      · exact absurd rfl hk
    · split at h
      · obtain rfl := Option.some.inj h
        split at hk
        · rename_i c; exact c.2.1
        · exact absurd rfl hk
      · split at h
        · obtain rfl := Option.some.inj h
          split at hk
          · rename_i c; exact c.2.2.2
          · exact absurd rfl hk
        · cases h

theorem pt_cases {t : Tt} {N : Int} {us : Bool} {S : List Int} {vl : Bool} {L : List Vl} (ht : OkT t) (h : ptT t (.mk N us S vl L) ≠ 0) :
    L = [] ∨ (¬ (t.K = 20 ∨ t.K = 21) ∧ insB t N L.length = true ∧ ptT t (.mk N us S vl L) = ptL (insL t N L.length) L 1 ∧ L.length ≤ (insL t N L.length).length) := by
  cases hlf : leafP t.K t.nm.length N S L.length with
  | some k =>
    have e : ptT t (.mk N us S vl L) = k := by
      conv => lhs; unfold ptT
      rw [hlf]
    exact .inl (List.length_eq_zero_iff.1 (leafP_L hlf (by rw [← e]; exact h)))
  | none =>
    have hS : S.length = 0 := by
      rcases Nat.eq_zero_or_pos S.length with h0 | h0
      · exact h0
      · refine absurd ?_ h
        conv => lhs; unfold ptT
        rw [hlf]
        exact if_pos (by omega)
    obtain ⟨e1, e2⟩ := pt_ins0 (us := us) (vl := vl) ht hlf hS
    have hb : insB t N L.length = true := by
      by_cases hb : insB t N L.length = true
      · exact hb
      · rw [e1, if_neg hb] at h; exact absurd rfl h
    rw [if_pos hb] at e1
    have hr := rng_none (leafP_none hlf).1
    exact .inr ⟨by omega, hb, e1, e2 hb⟩

mutual
theorem hs_len : ∀ (v : Vl) (t : Tt), OkT t → ptT t v ≠ 0 → ((hs t v).length : Int) ≤ ptT t v
  | .mk N us S vl L, t, ht, h => by
    have h0 := (ptT_le (.mk N us S vl L) t).1
    by_cases hk : t.K = 20 ∨ t.K = 21
    · have e : hs t (.mk N us S vl L) = [(t, N)] := by conv => lhs; unfold hs; rw [if_pos hk]
      rw [e]; simp only [List.length_cons, List.length_nil]; omega
    · have e : hs t (.mk N us S vl L) = hsL (insL t N L.length) L := by conv => lhs; unfold hs; rw [if_neg hk]
      rw [e]
      rcases pt_cases ht h with rfl | ⟨_, _, e1, e2⟩
      · rw [hsL_nil]; simp only [List.length_nil]; omega
      · rw [e1]
        have := hsL_len L (insL t N L.length) 1 (fun x hx => insL_ok ht hx) (by omega) (by rw [← e1]; exact h)
        omega
theorem hsL_len : ∀ (vs : List Vl) (ts : List Tt) (n : Int), (∀ t ∈ ts, OkT t) → 0 ≤ n → ptL ts vs n ≠ 0 → ((hsL ts vs).length : Int) + n ≤ ptL ts vs n
  | [], ts, n, _, _, _ => by rw [hsL_nil, ptL_nil]; simp
  | v :: vs, [], n, _, _, h => by
    refine absurd ?_ h
    conv => lhs; unfold ptL
  | v :: vs, t :: ts, n, ht, hn, h => by
    rw [ptL_cons] at h ⊢
    by_cases c : ptT t v = 0 ∨ 4000 < n + ptT t v
    · rw [if_pos c] at h; exact absurd rfl h
    · rw [if_neg c] at h ⊢
      have a := hs_len v t (ht t (by simp)) (by omega)
      have b := hsL_len vs ts (n + ptT t v) (fun x hx => ht x (by simp [hx])) (by omega) h
      rw [hsL_cons, List.length_append]
      omega
end

theorem plK_ne {t : Tt} (h : t.K = 13 ∨ t.K = 14) : plK t ≠ 12 := by
  unfold plK
  split
  · omega
  · rw [if_neg (by omega)]; omega

theorem ins_15 {t x : Tt} {N : Int} {Ln i : Nat} (e : plK t = 15) (hx : (insL t N Ln)[i]? = some x) : ∃ j : Nat, N = j ∧ (pl t)[j]? = some x := by
  have hK : 15 ≤ t.K ∧ t.K ≤ 18 := by
    unfold plK at e
    split at e
    · omega
    · split at e
      · omega
      · omega
  unfold insL at hx
  rw [if_neg (by omega), if_neg (by omega), if_pos hK] at hx
  split at hx
  · simp at hx
  · rename_i y hy
    split at hx
    · simp at hx
    · split at hy
      · rename_i h0
        refine ⟨N.toNat, by omega, ?_⟩
        cases i with
        | zero => simp at hx; rw [hy, hx]
        | succ i => simp at hx
      · cases hy

theorem ins_n15 {t x : Tt} {N : Int} {Ln i : Nat} (ht : OkT t) (e : plK t ≠ 15) (hx : (insL t N Ln)[i]? = some x) : (t.K = 12 ∧ plK t = 12 ∧ (pl t)[0]? = some x) ∨ (plK t ≠ 12 ∧ (pl t)[i]? = some x) := by
  have hown := ht.own
  have hK : ¬ (15 ≤ t.K ∧ t.K ≤ 18) := by
    intro hK
    apply e
    unfold plK
    rw [if_neg (by omega)]
    split
    · rfl
    · omega
  have hpl : pl t = t.l := pl_same (by omega) (by omega)
  unfold insL at hx
  by_cases k12 : t.K = 12
  · rw [if_pos k12] at hx
    have hl1 : t.l.length = 1 := by unfold OwnP at hown; omega
    obtain ⟨y, hy⟩ : ∃ y, t.l = [y] := by
      match h : t.l, hl1 with
      | [y], _ => exact ⟨y, rfl⟩
    have := List.mem_of_getElem? hx
    obtain rfl := List.eq_of_mem_replicate this
    left
    refine ⟨k12, ?_, ?_⟩
    · unfold plK; rw [if_neg (by omega), if_neg (by omega), k12]
    · rw [hpl, hy]; rfl
  · rw [if_neg k12] at hx
    right
    by_cases k13 : t.K = 13 ∨ t.K = 14
    · rw [if_pos k13] at hx
      exact ⟨plK_ne k13, by rw [hpl]; exact hx⟩
    · rw [if_neg k13, if_neg hK] at hx
      simp at hx

/-- What there is at a place in a value. -/
theorem inner_cl {n : Nat} (t : Tt) (v : Vl) (ht : OkT t) (hn : 200 ≤ n) {i : Nat} {x : Tt} (hi : i < v.L.length) (hk : ¬ (t.K = 20 ∨ t.K = 21)) (hB : insB t v.N v.L.length = true) (hx : (insL t v.N v.L.length)[i]? = some x) (S : Store) :
    cl n f_value_inner [.agg t.cells, .agg v.cells, i64 (i : Int)] S = some (.agg x.cells, S) := by
  obtain ⟨n, rfl⟩ : ∃ k, n = k + 1 := ⟨n - 1, by omega⟩
  have hown := ht.own
  obtain ⟨l1, l2⟩ := ht.lens
  have hpu : pureL? [.agg t.cells, .agg v.cells, i64 (i : Int)] = true := by simp [pureL?, pure?, pure_tcells, pure_cells]
  obtain ⟨u, k, cs, u', R', hplain⟩ := Plain_cl (n := n) t (by omega) l1 l2 S0
  have key : ∀ (j : Nat) (z : Tt), (pl t)[j]? = some z → ((0 : Int) ≤ (j : Int) ∧ (j : Int) < (((pl t).length : Nat) : Int) ∧ Int.toNat (j : Int) * 4 < (tcells (pl t)).length) ∧ ld prog t_api_Type (tcells (pl t)) (Int.toNat (j : Int) * 4) (.agg z.cells) := fun j z hz =>
    ⟨idx_ok (List.getElem?_eq_some_iff.1 hz).1 (tcells_length _) (k := 4) (by omega), ld_T hz⟩
  have h15 := fun e => ins_15 (t := t) (N := v.N) e hx
  have hn15 := fun e => ins_n15 (t := t) (N := v.N) ht e hx
  generalize pl t = P at *
  generalize plK t = PK at *
  obtain ⟨K, un, nm, ul, l, R⟩ := t
  obtain ⟨N, us, Sv, vl, L⟩ := v
  simp only [Vl.N] at h15
  refine cl_of (by kernel_rfl) hpu (Ret.eq (vc_value_inner n K un _ _ ul _ _ R N us _ _ vl _ _ (i : Int) _ ⟨_, _, _, _, _, _, _, _, hplain, br_dec (fun c => ?_) fun c => br_dec (fun c2 => ?_) fun c2 => ?_⟩)) (by obtain ⟨K', un', nm', ul', l', R2⟩ := x; rfl)
  · obtain ⟨j, rfl, hj⟩ := h15 c
    obtain ⟨g1, g2⟩ := key j x hj
    obtain ⟨K', un', nm', ul', l', R2⟩ := x
    exact ⟨g1, _, _, _, _, _, _, _, _, g2, rfl, rfl⟩
  · rcases hn15 c with ⟨_, _, hj⟩ | ⟨h, _⟩
    · obtain ⟨g1, g2⟩ := key 0 x hj
      obtain ⟨K', un', nm', ul', l', R2⟩ := x
      exact ⟨g1, _, _, _, _, _, _, _, _, g2, rfl, rfl⟩
    · exact absurd c2 h
  · rcases hn15 c with ⟨_, h, _⟩ | ⟨_, hj⟩
    · exact absurd h c2
    · obtain ⟨g1, g2⟩ := key i x hj
      obtain ⟨K', un', nm', ul', l', R2⟩ := x
      exact ⟨g1, _, _, _, _, _, _, _, _, g2, rfl, rfl⟩
end Go.Proofs.YtmjnfdjhaopeiaaGreatDoor

namespace Go.Proofs.YtmjnfdjhaopeiaaGreatDoor
open Go Go.Pvm
set_option maxRecDepth 100000

/-- What both sides hand back: types and numbers. -/
def TN (g : FuncId) (n : Nat) (t : Tt) (v : Vl) (S : Store) : Prop :=
  ∃ u1 u2, cl n g [.agg t.cells, .agg v.cells] S = some (.tup [.sl u1 (hs t v).length (aT (hs t v)), .sl u2 (hs t v).length (aN (hs t v))], S)

theorem frz_tn (ver : Nat) (h : List (Tt × Int)) : frz ⟨[(1, ⟨ver, 1, aN h⟩), (0, ⟨ver, 4, aT h⟩)], 2⟩ 9 (.tup [.bsl 0 ver 0 h.length, .bsl 1 ver 0 h.length]) = some (.tup [.sl false h.length (aT h), .sl false h.length (aN h)]) := by
  have h1 : ∀ j, frz ⟨[(1, ⟨ver, 1, aN h⟩), (0, ⟨ver, 4, aT h⟩)], 2⟩ (j + 2) (.bsl 0 ver 0 h.length) = some (.sl false h.length (aT h)) := fun j =>
    frz_bsl (bx := ⟨ver, 4, aT h⟩) rfl rfl (List.take_of_length_le (by simp [aT_len])) (by simp [aT_len]) (aT_solid _)
  have h2 : ∀ j, frz ⟨[(1, ⟨ver, 1, aN h⟩), (0, ⟨ver, 4, aT h⟩)], 2⟩ (j + 2) (.bsl 1 ver 0 h.length) = some (.sl false h.length (aN h)) := fun j =>
    frz_bsl (bx := ⟨ver, 1, aN h⟩) rfl rfl (List.take_of_length_le (by simp [aN_len])) (by simp [aN_len]) (aN_solid _)
  show Option.map PV.tup (List.mapM (frz _ 8) _) = _
  simp only [List.mapM_cons, List.mapM_nil, h1 6, h2 6]
  rfl

theorem ptL_step {t : Tt} {ts : List Tt} {v : Vl} {vs : List Vl} {n : Int} (h : ptL (t :: ts) (v :: vs) n ≠ 0) : ptT t v ≠ 0 ∧ ptL ts vs (n + ptT t v) ≠ 0 := by
  rw [ptL_cons] at h
  by_cases c : ptT t v = 0 ∨ 4000 < n + ptT t v
  · rw [if_pos c] at h; exact absurd rfl h
  · rw [if_neg c] at h; exact ⟨by omega, h⟩
theorem ptL_empty {v : Vl} {vs : List Vl} {n : Int} (h : ptL [] (v :: vs) n ≠ 0) : False := by
  apply h
  conv => lhs; unfold ptL

/-! ### the program's side -/
theorem handles_lp1 (n : Nat) (K : Int) (un : Bool) (nm : List ByteArray) (ul : Bool) (l : List Tt) (R N : Int) (us : Bool) (Sv : List Int) (vl : Bool) (L : List Vl) (ts : List Tt) (hL : L.length ≤ 20000) (Q : PV → Store → Prop)
    (hin : ∀ (i : Nat) (x : Tt), i < L.length → ts[i]? = some x → ∀ S, cl n f_value_inner [.agg (Tt.mk K un nm ul l R).cells, .agg (Vl.mk N us Sv vl L).cells, i64 (i : Int)] S = some (.agg x.cells, S))
    (hh : ∀ x ∈ ts, ∀ w ∈ L, ptT x w ≠ 0 → ∀ S, TN f_value_handles n x w S) :
    ∀ (r : List Vl) (q : List Tt) (i m ver : Nat) (A : List (Tt × Int)) (acc : Int), L.drop i = r → ts.drop i = q → r.length < m → ptL q r acc ≠ 0 → A.length + (hsL q r).length ≤ 4000 →
      (∀ ver, Q (.tup [.bsl 0 ver 0 (A ++ hsL q r).length, .bsl 1 ver 0 (A ++ hsL q r).length]) ⟨[(1, ⟨ver, 1, aN (A ++ hsL q r)⟩), (0, ⟨ver, 4, aT (A ++ hsL q r)⟩)], 2⟩) →
      L_value_handles_1 n m K un nm.length (nm.map str) ul l.length (tcells l) R N us Sv.length (Sv.map i64) vl L.length (cellsL L) ver A.length A.length (i : Int) (aN A) (aT A) Q
  | [], q, i, m, ver, A, acc, hd, hq, hm, hp, hA, hQ => by
    obtain ⟨m, rfl⟩ : ∃ k, m = k + 1 := ⟨m - 1, by omega⟩
    have := drop_len hd
    simp only [List.length_nil] at this
    simp only [hsL_nil, List.append_nil] at hQ
    exact lp_value_handles_1 n m K un _ _ ul _ _ R N us _ _ vl _ _ ver _ _ _ _ _ Q (br_dec (fun h => absurd h (by omega)) fun _ => hQ ver)
  | v :: r, [], i, m, ver, A, acc, hd, hq, hm, hp, hA, hQ => (ptL_empty hp).elim
  | v :: r, t :: q, i, m, ver, A, acc, hd, hq, hm, hp, hA, hQ => by
    obtain ⟨m, rfl⟩ : ∃ k, m = k + 1 := ⟨m - 1, by omega⟩
    obtain ⟨g1, g2, g3⟩ := drop_get hd
    obtain ⟨k1, k2, k3⟩ := drop_get hq
    obtain ⟨p1, p2⟩ := ptL_step hp
    have hv := ld_V g1
    have hi := idx_ok g3 (cellsL_length L) (k := 3) (by omega)
    have hin' := hin i t g3 k1 ⟨[(1, ⟨ver, 1, aN A⟩), (0, ⟨ver, 4, aT A⟩)], 2⟩
    obtain ⟨u1, u2, hc⟩ := hh t (List.mem_of_getElem? k1) v (List.mem_of_getElem? g1) p1 ⟨[(1, ⟨ver, 1, aN A⟩), (0, ⟨ver, 4, aT A⟩)], 2⟩
    rw [hsL_cons] at hQ hA
    rw [List.length_append] at hA
    have ih := fun a b => handles_lp1 n K un nm ul l R N us Sv vl L ts hL Q hin hh r q (i + 1) m (ver + 1) (A ++ hs t v) (acc + ptT t v) g2 k2 (by simp at hm; omega) p2 a b
    rw [List.append_assoc, List.length_append] at ih
    have ih' := ih (by omega) hQ
    rw [aT_app, aN_app] at ih'
    have e1 : IntKind.i64.wrap ((i : Int) + 1) = ((i + 1 : Nat) : Int) := by rw [wrap64 (by omega)]; simp
    have t1 : List.take (A.length * 4) (aT A) = aT A := List.take_of_length_le (by rw [aT_len]; omega)
    have t2 : List.take (A.length * 1) (aN A) = aN A := List.take_of_length_le (by rw [aN_len]; omega)
    have cT : (aT (hs t v)).length = (hs t v).length * 4 ∧ (aT (hs t v)).all oneC = true ∧ ver = ver ∧ 0 = 0 ∧ 4 = 4 ∧ A.length * 4 ≤ (aT A).length ∧ (List.take (A.length * 4) (aT A)).all oneC = true ∧ (A.length + (hs t v).length) * 64 ≤ 140737488355328 ∧ A.length + (hs t v).length ≤ 140737488355328 :=
      ⟨aT_len _, aT_one _, rfl, rfl, rfl, by rw [aT_len]; omega, by rw [t1]; exact aT_one _, by omega, by omega⟩
    have cN : (aN (hs t v)).length = (hs t v).length * 1 ∧ (aN (hs t v)).all oneC = true ∧ ver = ver ∧ 0 = 0 ∧ 1 = 1 ∧ A.length * 1 ≤ (aN A).length ∧ (List.take (A.length * 1) (aN A)).all oneC = true ∧ (A.length + (hs t v).length) * 8 ≤ 140737488355328 ∧ A.length + (hs t v).length ≤ 140737488355328 :=
      ⟨by rw [aN_len]; omega, aN_one _, rfl, rfl, rfl, by rw [aN_len]; omega, by rw [t2]; exact aN_one _, by omega, by omega⟩
    rw [← e1, ← t1, ← t2] at ih'
    refine lp_value_handles_1 n m K un _ _ ul _ _ R N us _ _ vl _ _ ver _ _ _ _ _ Q (br_dec (fun _ => ?_) fun h => absurd (by omega) h)
    rw [t1, t2] at ih'
    clear ih hQ hh hin
    generalize hs t v = H at *
    obtain ⟨N', us', S', ul', L'⟩ := v
    obtain ⟨K', un', nm', ul2, l', R'⟩ := t
    rw [t1, t2]
    rw [t1] at cT
    rw [t2] at cN
    exact ⟨hi, _, _, _, _, _, _, _, hv, _, _, _, _, _, _, _, _, hin', _, _, _, _, _, _, hc, cT, cN, ih'⟩
end Go.Proofs.YtmjnfdjhaopeiaaGreatDoor
