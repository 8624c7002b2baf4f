/-
  A part of the proof: Z16, Z17.
-/
import Derived.Test.YtmjnfdjhaopeiaaGreatDoorZE
namespace Go.Proofs.YtmjnfdjhaopeiaaGreatDoor
open Go Go.Pvm
set_option maxRecDepth 100000

/-- The types of what a value has within; whether it may have so much. -/
def insL (t : Tt) (N : Int) (L : Nat) : List Tt :=
  if t.K = 12 then List.replicate (min L 1001) (t.l.headD zeroT) else if t.K = 13 ∨ t.K = 14 then t.l
  else if 15 ≤ t.K ∧ t.K ≤ 18 then (match (if 0 ≤ N then (pl t)[N.toNat]? else none) with | none => [] | some x => if x.K = 0 then [] else [x]) else []
def insB (t : Tt) (N : Int) (L : Nat) : Bool :=
  if t.K = 12 then decide (N = 0) && decide (L ≤ 1000) else if t.K = 13 ∨ t.K = 14 then decide (N = 0) && decide (L = t.l.length)
  else if 15 ≤ t.K ∧ t.K ≤ 18 then (match (if 0 ≤ N then (pl t)[N.toNat]? else none) with | none => false | some x => if x.K = 0 then decide (L = 0) else decide (L = 1)) else decide (L = 0)

theorem Inside_lp1 (n : Nat) (un : Bool) (nm : List ByteArray) (ul : Bool) (x : Tt) (R N : Int) (us : Bool) (S : List Int) (vl : Bool) (L : List Vl) (hL : L.length ≤ 20000) (Q : PV → Store → Prop)
    (hQ : ∀ ver, Q (.tup [.bsl 0 ver 0 (min L.length 1001), bl (decide (N = 0) && decide (L.length ≤ 1000))]) ⟨[(0, ⟨ver, 4, tcells (List.replicate (min L.length 1001) x)⟩)], 1⟩) :
    ∀ (m i ver : Nat), i ≤ min L.length 1001 → min L.length 1001 - i < m →
      L_scarfref15_Inside_1 n m 12 un nm.length (nm.map str) ul 1 (tcells [x]) R N us S.length (S.map i64) vl L.length (cellsL L) ver i (i : Int) (tcells (List.replicate i x)) Q
  | 0, i, ver, _, hm => by omega
  | m + 1, i, ver, hi, hm => by
    have fin : i = min L.length 1001 → br (decide (N = 0)) (Q (.tup [.bsl 0 ver 0 i, bl (decide (((L.length : Nat) : Int) ≤ 1000))]) ⟨[(0, ⟨ver, 4, tcells (List.replicate i x)⟩)], 1⟩) (Q (.tup [.bsl 0 ver 0 i, bl false]) ⟨[(0, ⟨ver, 4, tcells (List.replicate i x)⟩)], 1⟩) := by
      intro e
      have h := hQ ver
      rw [← e] at h
      refine br_dec (fun c => ?_) fun c => ?_
      · rw [decide_eq_true c, Bool.true_and] at h
        rw [show decide (((L.length : Nat) : Int) ≤ 1000) = decide (L.length ≤ 1000) from decide_eq_decide.2 (by omega)]; exact h
      · rw [decide_eq_false c, Bool.false_and] at h; exact h
    refine lp_scarfref15_Inside_1 n m 12 un _ _ ul _ _ R N us _ _ vl _ _ ver i _ _ Q (br_dec (fun c => br_dec (fun c2 => ?_) fun c2 => fin (by omega)) fun c => fin (by omega))
    have hx := ld_T (l := [x]) (i := 0) rfl
    have hi0 := idx_ok (n := 1) (i := 0) (by omega) (tcells_length [x]) (k := 4) (by omega)
    have e1 : IntKind.i64.wrap ((i : Int) + 1) = ((i + 1 : Nat) : Int) := by rw [wrap64 (by omega)]; simp
    have t1 : List.take (i * 4) (tcells (List.replicate i x)) = tcells (List.replicate i x) := List.take_of_length_le (by rw [tcells_length]; simp)
    have t2 : tcells (List.replicate i x) ++ x.cells = tcells (List.replicate (i + 1) x) := by rw [List.replicate_succ', tcells_append, tcells_one]
    have ih := Inside_lp1 n un nm ul x R N us S vl L hL Q hQ m (i + 1) (ver + 1) (by omega) (by omega)
    rw [← t2] at ih
    rw [e1, t1]
    have cx := cell_oneC x
    have cc := tcells_oneC (List.replicate i x)
    have cl4 : i * 4 ≤ (tcells (List.replicate i x)).length := by rw [tcells_length]; simp
    obtain ⟨K', un', nm', ul', l', R'⟩ := x
    exact ⟨hi0, _, _, _, _, _, _, _, _, hx, ⟨rfl, cx, rfl, rfl, rfl, cl4, cc, by omega, by omega⟩, ih⟩

theorem Inside_cl {n : Nat} (t : Tt) (v : Vl) (ht : OkT t) (hL : v.L.length ≤ 20000) (hn : 24000 ≤ n) (S : Store) :
    ∃ u, cl n f_scarfref15_Inside [.agg t.cells, .agg v.cells] S = some (.tup [.sl u (insL t v.N v.L.length).length (tcells (insL t v.N v.L.length)), bl (insB t v.N v.L.length)], S) := by
  obtain ⟨n, rfl⟩ : ∃ k, n = k + 1 := ⟨n - 1, by omega⟩
  have hown := ht.own
  obtain ⟨l1, l2⟩ := ht.lens
  have hpu := pure_tv t v
  obtain ⟨K, un, nm, ul, l, R⟩ := t
  obtain ⟨N, us, Sv, vl, L⟩ := v
  simp only [Tt.K, Tt.nm, Tt.l, Tt.R, Vl.L, Vl.N] at hown l1 l2 hL ⊢
  have key : Ret cfg (n + 1) f_scarfref15_Inside [.agg (Tt.mk K un nm ul l R).cells, .agg (Vl.mk N us Sv vl L).cells] S0 fun p T => ∃ u, frz T 9 p = some (.tup [.sl u (insL (.mk K un nm ul l R) N L.length).length (tcells (insL (.mk K un nm ul l R) N L.length)), bl (insB (.mk K un nm ul l R) N L.length)]) := by
    refine vc_scarfref15_Inside n K un _ _ ul _ _ R N us _ _ vl _ _ _ (br_dec (fun k => ?_) fun k12 => br_dec (fun k => ?_) fun k13 => br_dec (fun k => ?_) fun k14 => br_dec (fun k15 => br_dec (fun k18 => ?_) fun k18 => ?_) fun k15 => ?_)
    · subst k
      have hl1 : l.length = 1 := by unfold OwnP at hown; omega
      obtain ⟨x, rfl⟩ : ∃ x, l = [x] := by
        match l, hl1 with
        | [x], _ => exact ⟨x, rfl⟩
      have eL : insL (.mk 12 un nm ul [x] R) N L.length = List.replicate (min L.length 1001) x := rfl
      have eB : insB (.mk 12 un nm ul [x] R) N L.length = (decide (N = 0) && decide (L.length ≤ 1000)) := rfl
      rw [eL, eB]
      obtain ⟨m, rfl⟩ : ∃ k, n = k + 1 := ⟨n - 1, by omega⟩
      refine lp_scarfref15_Inside_0 _ m 12 un _ _ ul _ _ R N us _ _ vl _ _ _ (br_dec (fun c => ?_) fun c => ?_)
      · have hx := ld_T (l := [x]) (i := 0) rfl
        have hi0 := idx_ok (n := 1) (i := 0) (by omega) (tcells_length [x]) (k := 4) (by omega)
        have cx := cell_oneC x
        have ih := Inside_lp1 (m + 1) un nm ul x R N us Sv vl L hL (fun p T => ∃ u, frz T 9 p = some (.tup [.sl u (List.replicate (min L.length 1001) x).length (tcells (List.replicate (min L.length 1001) x)), bl (decide (N = 0) && decide (L.length ≤ 1000))]))
          (fun ver => ⟨false, ?_⟩) m 1 0 (by omega) (by omega)
        · have e : tcells (List.replicate 1 x) = x.cells := by simp [tcells]
          rw [e] at ih
          obtain ⟨K', un', nm', ul', l', R'⟩ := x
          exact ⟨hi0, _, _, _, _, _, _, _, _, hx, ⟨rfl, cx, rfl, rfl, rfl, by omega, by omega, .inl rfl⟩, ih⟩
        · have h3 : ∀ j, frz ⟨[(0, ⟨ver, 4, tcells (List.replicate (min L.length 1001) x)⟩)], 1⟩ (j + 2) (.bsl 0 ver 0 (min L.length 1001)) = some (.sl false (min L.length 1001) (tcells (List.replicate (min L.length 1001) x))) := fun j =>
            frz_bsl (bx := ⟨ver, 4, tcells (List.replicate (min L.length 1001) x)⟩) rfl rfl (List.take_of_length_le (by simp [tcells_length])) (by simp [tcells_length]) (tcells_solid _)
          show Option.map PV.tup (List.mapM (frz _ 8) _) = _
          simp only [List.mapM_cons, List.mapM_nil, h3 6, List.length_replicate]
          rfl
      · have e : L.length = 0 := by omega
        rw [e]
        refine br_dec (fun c => ⟨true, ?_⟩) fun c => ⟨true, ?_⟩
        · rw [decide_eq_true c]; rfl
        · rw [decide_eq_false c]; rfl
    · subst k
      have eB : insB (.mk 13 un nm ul l R) N L.length = (decide (N = 0) && decide (L.length = l.length)) := rfl
      have eL : insL (.mk 13 un nm ul l R) N L.length = l := rfl
      rw [eL, eB]
      refine br_dec (fun c => ⟨ul, ?_⟩) fun c => ⟨ul, ?_⟩
      · rw [decide_eq_true c, show decide (((L.length : Nat) : Int) = ((l.length : Nat) : Int)) = decide (L.length = l.length) from decide_eq_decide.2 (by omega)]; rfl
      · rw [decide_eq_false c]; rfl
    · subst k
      have eB : insB (.mk 14 un nm ul l R) N L.length = (decide (N = 0) && decide (L.length = l.length)) := rfl
      have eL : insL (.mk 14 un nm ul l R) N L.length = l := rfl
      rw [eL, eB]
      refine br_dec (fun c => ⟨ul, ?_⟩) fun c => ⟨ul, ?_⟩
      · rw [decide_eq_true c, show decide (((L.length : Nat) : Int) = ((l.length : Nat) : Int)) = decide (L.length = l.length) from decide_eq_decide.2 (by omega)]; rfl
      · rw [decide_eq_false c]; rfl
    · obtain ⟨K', u, k, cs, u', R', hplain⟩ := RPlain_cl (n := n) (.mk K un nm ul l R) (by omega) ⟨by simp only [Tt.K]; omega, by simp only [Tt.K]; omega⟩ l1 l2 (by simp only [Tt.K, Tt.l]; unfold OwnP at hown; omega) S0
      have hpl : ∀ o, (if 0 ≤ N then (pl (.mk K un nm ul l R))[N.toNat]? else none) = o → insL (.mk K un nm ul l R) N L.length = (match o with | none => [] | some x => if x.K = 0 then [] else [x]) ∧
          insB (.mk K un nm ul l R) N L.length = (match o with | none => false | some x => if x.K = 0 then decide (L.length = 0) else decide (L.length = 1)) := by
        intro o ho
        have hK : (15 ≤ (Tt.mk K un nm ul l R).K ∧ (Tt.mk K un nm ul l R).K ≤ 18) := ⟨by simp only [Tt.K]; omega, by simp only [Tt.K]; omega⟩
        have h12 : ¬ (Tt.mk K un nm ul l R).K = 12 := by simp only [Tt.K]; omega
        have h13 : ¬ ((Tt.mk K un nm ul l R).K = 13 ∨ (Tt.mk K un nm ul l R).K = 14) := by simp only [Tt.K]; omega
        unfold insL insB
        rw [if_neg h12, if_neg h13, if_pos hK, if_neg h12, if_neg h13, if_pos hK, ho]
        exact ⟨rfl, rfl⟩
      generalize pl (.mk K un nm ul l R) = P at *
      refine ⟨_, _, _, _, _, _, _, _, hplain, br_dec (fun c => ?_) fun c => br_dec (fun c' => ?_) fun c' => ?_⟩
      · obtain ⟨h1, h2⟩ := hpl none (by rw [if_neg (by omega)])
        rw [h1, h2]; exact ⟨true, rfl⟩
      · obtain ⟨h1, h2⟩ := hpl none (by rw [if_pos (by omega), List.getElem?_eq_none (by omega)])
        rw [h1, h2]; exact ⟨true, rfl⟩
      · obtain ⟨j, rfl⟩ : ∃ j : Nat, N = j := ⟨N.toNat, by omega⟩
        have hj : j < P.length := by omega
        have hx := List.getElem?_eq_getElem hj
        generalize P[j] = x at *
        obtain ⟨h1, h2⟩ := hpl (some x) (by rw [if_pos (by omega), Int.toNat_natCast, hx])
        rw [h1, h2]
        have hij := idx_ok hj (tcells_length P) (k := 4) (by omega)
        refine ⟨hij, _, ld_K hx, br_ndec (fun c3 => ?_) fun c3 => ?_⟩
        · simp only [if_neg c3]
          have hT := ld_T hx
          have cx := cell_oneC x
          have e1 : tcells [x] = x.cells := tcells_one x
          have e2 : decide (((L.length : Nat) : Int) = 1) = decide (L.length = 1) := decide_eq_decide.2 (by omega)
          have h3 : ∀ j, frz ⟨[(0, ⟨0, 4, x.cells⟩)], 1⟩ (j + 2) (.bsl 0 0 0 1) = some (.sl false 1 (tcells [x])) := fun j => by
            rw [← e1]
            exact frz_bsl (bx := ⟨0, 4, tcells [x]⟩) rfl rfl (List.take_of_length_le (by simp [tcells_length])) (by simp [tcells_length]) (tcells_solid _)
          have hf : frz ⟨[(0, ⟨0, 4, x.cells⟩)], 1⟩ 9 (.tup [.bsl 0 0 0 1, bl (decide (((L.length : Nat) : Int) = 1))]) = some (.tup [.sl false [x].length (tcells [x]), bl (decide (L.length = 1))]) := by
            show Option.map PV.tup (List.mapM (frz _ 8) _) = _
            simp only [List.mapM_cons, List.mapM_nil, h3 6, e2]
            rfl
          obtain ⟨K', un', nm', ul', l', R'⟩ := x
          exact ⟨hij, _, _, _, _, _, _, _, _, hT, ⟨rfl, cx, trivial, rfl, rfl, by omega, by omega, .inl trivial⟩, false, hf⟩
        · simp only [if_pos c3]
          rw [show decide (((L.length : Nat) : Int) = 0) = decide (L.length = 0) from decide_eq_decide.2 (by omega)]
          exact ⟨true, rfl⟩
    all_goals
      have h12 : ¬ (Tt.mk K un nm ul l R).K = 12 := by simp only [Tt.K]; omega
      have h13 : ¬ ((Tt.mk K un nm ul l R).K = 13 ∨ (Tt.mk K un nm ul l R).K = 14) := by simp only [Tt.K]; omega
      have hK : ¬ (15 ≤ (Tt.mk K un nm ul l R).K ∧ (Tt.mk K un nm ul l R).K ≤ 18) := by simp only [Tt.K]; omega
      unfold insL insB
      rw [if_neg h12, if_neg h13, if_neg hK, if_neg h12, if_neg h13, if_neg hK]
      rw [show decide (((L.length : Nat) : Int) = 0) = decide (L.length = 0) from decide_eq_decide.2 (by omega)]
      exact ⟨true, rfl⟩
  obtain ⟨p, T, hr, u, hf⟩ := key
  exact ⟨u, cl_frz (by kernel_rfl) hpu hr hf⟩
end Go.Proofs.YtmjnfdjhaopeiaaGreatDoor

namespace Go.Proofs.YtmjnfdjhaopeiaaGreatDoor
open Go Go.Pvm
set_option maxRecDepth 100000

theorem sum_lp (n : Nat) (u u' : Bool) (ts : List Tt) (vs : List Vl) (hlen : vs.length ≤ ts.length) (hb : vs.length ≤ 20000) (Q : PV → Store → Prop)
    (hp : ∀ t ∈ ts, ∀ v ∈ vs, cl n f_scarfref15_Parts [.agg t.cells, .agg v.cells] S0 = some (i64 (ptT t v), S0)) :
    ∀ (r : List Vl) (q : List Tt) (i m : Nat) (acc : Int), vs.drop i = r → ts.drop i = q → r.length < m → 0 ≤ acc → acc ≤ 4000 → Q (i64 (ptL q r acc)) S0 →
      L_scarfref15_sum_0 n m u ts.length (tcells ts) u' vs.length (cellsL vs) acc (i : Int) Q
  | [], q, i, m, acc, hd, hq, hm, h0, h1, hQ => by
    obtain ⟨m, rfl⟩ : ∃ k, m = k + 1 := ⟨m - 1, by omega⟩
    have := drop_len hd
    simp only [List.length_nil] at this
    rw [ptL_nil] at hQ
    exact lp_scarfref15_sum_0 n m u _ _ u' _ _ acc _ Q (br_dec (fun h => absurd h (by omega)) fun _ => hQ)
  | v :: r, q, i, m, acc, hd, hq, hm, h0, h1, hQ => by
    obtain ⟨m, rfl⟩ : ∃ k, m = k + 1 := ⟨m - 1, by omega⟩
    obtain ⟨g1, g2, g3⟩ := drop_get hd
    cases q with
    | nil => have := drop_len hq; simp at this; omega
    | cons t q =>
      obtain ⟨k1, k2, k3⟩ := drop_get hq
      have hv := ld_V g1
      have ht := ld_T k1
      have hi := idx_ok g3 (cellsL_length vs) (k := 3) (by omega)
      have hj := idx_ok k3 (tcells_length ts) (k := 4) (by omega)
      have hc := hp t (List.mem_of_getElem? k1) v (List.mem_of_getElem? g1)
      have hb2 := ptT_le v t
      have e1 : IntKind.i64.wrap ((i : Int) + 1) = ((i + 1 : Nat) : Int) := by rw [wrap64 (by omega)]; simp
      have e2 : IntKind.i64.wrap (acc + ptT t v) = acc + ptT t v := wrap64 (by omega)
      have ih := fun a b => sum_lp n u u' ts vs hlen hb Q hp r q (i + 1) m (acc + ptT t v) g2 k2 (by simp at hm; omega) a b
      rw [ptL_cons] at hQ
      refine lp_scarfref15_sum_0 n m u _ _ u' _ _ acc _ Q (br_dec (fun _ => ?_) fun h => absurd (by omega) h)
      rw [e1]
      generalize ptT t v = w at *
      have rest : br (decide (w = 0)) (Q (i64 0) ⟨[], 0⟩) (br (decide (IntKind.i64.wrap (acc + w) > 4000)) (Q (i64 0) ⟨[], 0⟩) (L_scarfref15_sum_0 n m u ts.length (tcells ts) u' vs.length (cellsL vs) (IntKind.i64.wrap (acc + w)) ((i + 1 : Nat) : Int) Q)) := by
        rw [e2]
        refine br_dec (fun c1 => ?_) fun c1 => br_dec (fun c2 => ?_) fun c2 => ?_
        · rw [if_pos (.inl c1)] at hQ; exact hQ
        · rw [if_pos (.inr (by omega))] at hQ; exact hQ
        · rw [if_neg (by omega)] at hQ; exact ih (by omega) (by omega) hQ
      clear hQ ih hp
      obtain ⟨N, us, S, ul, L⟩ := v
      obtain ⟨K', un', nm', ul', l', R'⟩ := t
      exact ⟨hj, _, _, _, _, _, _, _, _, ht, hi, _, _, _, _, _, _, _, hv, _, hc, rest⟩

theorem sum_of {n : Nat} (u u' : Bool) (ts : List Tt) (vs : List Vl) (hlen : vs.length ≤ ts.length) (hb : vs.length ≤ 20000) (hn : 20002 ≤ n)
    (hp : ∀ t ∈ ts, ∀ v ∈ vs, cl (n - 1) f_scarfref15_Parts [.agg t.cells, .agg v.cells] S0 = some (i64 (ptT t v), S0)) (S : Store) :
    cl n f_scarfref15_sum [.sl u ts.length (tcells ts), .sl u' vs.length (cellsL vs)] S = some (i64 (ptL ts vs 1), S) := by
  obtain ⟨n, rfl⟩ : ∃ k, n = k + 1 := ⟨n - 1, by omega⟩
  exact cl_of (by kernel_rfl) rfl (Ret.eq (vc_scarfref15_sum n u _ _ u' _ _ _ (sum_lp n u u' ts vs hlen hb _ hp vs ts 0 n 1 rfl rfl (by omega) (by omega) (by omega) ⟨rfl, rfl⟩))) rfl

theorem pt_ins0 {t : Tt} {N : Int} {us : Bool} {S : List Int} {vl : Bool} {L : List Vl} (ht : OkT t) (hlf : leafP t.K t.nm.length N S L.length = none) (hS : S.length = 0) :
    ptT t (.mk N us S vl L) = (if insB t N L.length = true then ptL (insL t N L.length) L 1 else 0) ∧ (insB t N L.length = true → L.length ≤ (insL t N L.length).length) := by
  obtain ⟨h0, h10, h11, h19⟩ := leafP_none hlf
  have hnr := rng_none h0
  have hown := ht.own
  have e : ptT t (.mk N us S vl L) = if S.length ≠ 0 then 0 else
          if t.K = 12 then (if N = 0 ∧ L.length ≤ 1000 then ptL (List.replicate L.length (t.l.headD zeroT)) L 1 else 0)
          else if t.K = 13 ∨ t.K = 14 then (if N = 0 ∧ L.length = t.l.length then ptL t.l L 1 else 0)
          else match (if 0 ≤ N then (pl t)[N.toNat]? else none) with
            | none => 0
            | some x => if x.K = 0 then (if L.length = 0 then 1 else 0) else if L.length = 1 then ptL [x] L 1 else 0 := by
    conv => lhs; unfold ptT
    rw [hlf]; rfl
  rw [e, if_neg (by omega)]
  by_cases k12 : t.K = 12
  · have eB : insB t N L.length = (decide (N = 0) && decide (L.length ≤ 1000)) := by unfold insB; rw [if_pos k12]
    have eL : insL t N L.length = List.replicate (min L.length 1001) (t.l.headD zeroT) := by unfold insL; rw [if_pos k12]
    rw [eB, eL, if_pos k12]
    by_cases c : N = 0 ∧ L.length ≤ 1000
    · rw [if_pos c, decide_eq_true c.1, decide_eq_true c.2, Nat.min_eq_left (by omega)]
      exact ⟨by simp, fun _ => by simp⟩
    · rw [if_neg c]
      have : (decide (N = 0) && decide (L.length ≤ 1000)) = false := by rw [Bool.eq_false_iff]; simp; omega
      rw [this]
      exact ⟨by simp, fun h => by cases h⟩
  · by_cases k13 : t.K = 13 ∨ t.K = 14
    · have eB : insB t N L.length = (decide (N = 0) && decide (L.length = t.l.length)) := by unfold insB; rw [if_neg k12, if_pos k13]
      have eL : insL t N L.length = t.l := by unfold insL; rw [if_neg k12, if_pos k13]
      rw [eB, eL, if_neg k12, if_pos k13]
      by_cases c : N = 0 ∧ L.length = t.l.length
      · rw [if_pos c, decide_eq_true c.1, decide_eq_true c.2]
        exact ⟨by simp, fun _ => by omega⟩
      · rw [if_neg c]
        have : (decide (N = 0) && decide (L.length = t.l.length)) = false := by rw [Bool.eq_false_iff]; simp; omega
        rw [this]
        exact ⟨by simp, fun h => by cases h⟩
    · have hK : 15 ≤ t.K ∧ t.K ≤ 18 := by unfold OwnP at hown; omega
      have eB : insB t N L.length = (match (if 0 ≤ N then (pl t)[N.toNat]? else none) with | none => false | some x => if x.K = 0 then decide (L.length = 0) else decide (L.length = 1)) := by
        unfold insB; rw [if_neg k12, if_neg k13, if_pos hK] <;> rfl
      have eL : insL t N L.length = (match (if 0 ≤ N then (pl t)[N.toNat]? else none) with | none => [] | some x => if x.K = 0 then [] else [x]) := by
        unfold insL; rw [if_neg k12, if_neg k13, if_pos hK] <;> rfl
      rw [eB, eL, if_neg k12, if_neg k13]
      cases (if 0 ≤ N then (pl t)[N.toNat]? else none) with
      | none => exact ⟨by simp, fun h => by cases h⟩
      | some x =>
        simp only
        by_cases hx : x.K = 0
        · simp only [if_pos hx]
          by_cases c : L.length = 0
          · obtain rfl : L = [] := List.eq_nil_of_length_eq_zero c
            exact ⟨by simp [ptL_nil], fun _ => by simp⟩
          · rw [if_neg c, decide_eq_false c]
            exact ⟨by simp, fun h => by cases h⟩
        · simp only [if_neg hx]
          by_cases c : L.length = 1
          · rw [if_pos c, decide_eq_true c]
            exact ⟨by simp, fun _ => by simp; omega⟩
          · rw [if_neg c, decide_eq_false c]
            exact ⟨by simp, fun h => by cases h⟩

/-- What a value with items comes to. -/
theorem pt_ins {t : Tt} {v : Vl} (ht : OkT t) (hlf : leafP t.K t.nm.length v.N v.S v.L.length = none) (hS : v.S.length = 0) :
    ptT t v = (if insB t v.N v.L.length = true then ptL (insL t v.N v.L.length) v.L 1 else 0) ∧ (insB t v.N v.L.length = true → v.L.length ≤ (insL t v.N v.L.length).length) := by
  obtain ⟨N, us, S, vl, L⟩ := v
  exact pt_ins0 ht hlf hS

theorem insL_ok {t x : Tt} {N : Int} {L : Nat} (ht : OkT t) (hx : x ∈ insL t N L) : OkT x := by
  have hown := ht.own
  unfold insL at hx
  split at hx
  · rename_i k
    obtain rfl := List.eq_of_mem_replicate hx
    have hl1 : t.l.length = 1 := by unfold OwnP at hown; omega
    obtain ⟨y, hy⟩ : ∃ y, t.l = [y] := by
      match h : t.l, hl1 with
      | [y], _ => exact ⟨y, rfl⟩
    rw [hy]
    rcases ht.mem (x := y) (by simp [hy]) with h | h
    · omega
    · exact h
  · split at hx
    · rename_i k
      rcases ht.mem hx with h | h
      · omega
      · exact h
    · split at hx
      · split at hx
        · cases hx
        · rename_i y hy
          split at hx
          · cases hx
          · rename_i hk
            obtain rfl := List.mem_singleton.1 hx
            split at hy
            · rcases pl_ok ht hy with h | h
              · exact absurd h hk
              · exact h
            · cases hy
      · cases hx

theorem RParts_entry (n : Nat) (K : Int) (un : Bool) (nm : List ByteArray) (ul : Bool) (l : List Tt) (R N : Int) (us : Bool) (S : List Int) (vl : Bool) (L : List Vl) (Q : PV → Store → Prop)
    (ht : OkT (.mk K un nm ul l R)) (hN : -9223372036854775808 ≤ N ∧ N ≤ 9223372036854775807) (hS : S.length ≤ 20000) (hL : L.length ≤ 20000) (hn : 23000 ≤ n)
    (hins : leafP K nm.length N S L.length = none → S.length = 0 → cl n f_scarfref15_inside [.agg (Tt.mk K un nm ul l R).cells, .agg (Vl.mk N us S vl L).cells] S0 = some (i64 (ptT (.mk K un nm ul l R) (.mk N us S vl L)), S0))
    (hQ : Q (i64 (ptT (.mk K un nm ul l R) (.mk N us S vl L))) S0) : Ret cfg (n + 1) f_scarfref15_Parts [.agg (Tt.mk K un nm ul l R).cells, .agg (Vl.mk N us S vl L).cells] S0 Q := by
  have hown := ht.own
  obtain ⟨l1, l2⟩ := ht.lens
  simp only [Tt.K, Tt.nm, Tt.l, Tt.R] at hown l1 l2
  have hwhole := whole_cl (n := n) (by omega) K N hN S0
  have hw1 : IntKind.i64.wrap ((1 : Int) + ((S.length : Nat) : Int)) = 1 + S.length := wrap64 (by omega)
  refine vc_scarfref15_Parts n K un _ _ ul _ _ R N us _ _ vl _ _ Q ⟨_, hwhole, ?_⟩
  cases hr : rng K with
  | some p =>
    obtain ⟨lo, hi⟩ := p
    have e : ptT (.mk K un nm ul l R) (.mk N us S vl L) = if lo ≤ N ∧ N ≤ hi ∧ S.length = 0 ∧ L.length = 0 then 1 else 0 := by
      unfold ptT leafP; simp only [Tt.K, hr]
    rw [e] at hQ
    have ew : wholeI K N = if lo ≤ N ∧ N ≤ hi then 2 else 1 := by unfold wholeI; rw [hr]
    rw [ew]
    by_cases c : lo ≤ N ∧ N ≤ hi
    · rw [if_pos c]
      refine br_dec (fun _ => br_dec (fun h => absurd h (by omega)) fun _ => br_dec (fun c1 => ?_) fun c1 => br_dec (fun c2 => ?_) fun c2 => ?_) fun h => absurd (by omega) h
      · rw [if_neg (by omega)] at hQ; exact hQ
      · rw [if_neg (by omega)] at hQ; exact hQ
      · rw [if_pos (by omega)] at hQ; exact hQ
    · rw [if_neg c]
      refine br_dec (fun _ => br_dec (fun _ => ?_) fun h => absurd rfl h) fun h => absurd (by omega) h
      rw [if_neg (fun h => c ⟨h.1, h.2.1⟩)] at hQ; exact hQ
  | none =>
    have ew : wholeI K N = 0 := by unfold wholeI; rw [hr]
    rw [ew]
    refine br_dec (fun h => absurd h (by omega)) fun _ => br_dec (fun k => ?_) fun k10 => br_dec (fun k => ?_) fun k11 => ?_
    · subst k
      have e : ptT (.mk 10 un nm ul l R) (.mk N us S vl L) = if scalar N = true ∧ S.length = 0 ∧ L.length = 0 then 1 else 0 := by
        unfold ptT leafP; simp only [Tt.K, hr, if_true]
      rw [e] at hQ
      refine ⟨_, ref_Scalar_cl (by omega) N _, br_intro (fun c => ?_) fun c => br_dec (fun c2 => ?_) fun c2 => br_dec (fun c3 => ?_) fun c3 => ?_⟩
      · rw [if_neg (by simp at c; simp [c])] at hQ; exact hQ
      · rw [if_neg (by omega)] at hQ; exact hQ
      · rw [if_neg (by omega)] at hQ; exact hQ
      · rw [if_pos ⟨by simpa using c, by omega, by omega⟩] at hQ; exact hQ
    · subst k
      have e : ptT (.mk 11 un nm ul l R) (.mk N us S vl L) = if N = 0 ∧ L.length = 0 ∧ S.length ≤ 1000 ∧ (S.any fun p => !scalar p) = false then 1 + (S.length : Int) else 0 := by
        unfold ptT leafP; simp only [Tt.K, hr]; rfl
      rw [e] at hQ
      have lp : ∀ (r : List Int) (i m : Nat), S.drop i = r → r.length < m → (r.any fun p => !scalar p) = (S.any fun p => !scalar p) →
          L_scarfref15_Parts_0 n m 11 un nm.length (nm.map str) ul l.length (tcells l) R N us S.length (S.map i64) vl L.length (cellsL L) (i : Int) Q := by
        intro r
        induction r with
        | nil =>
          intro i m hd hm ha
          obtain ⟨m, rfl⟩ : ∃ k, m = k + 1 := ⟨m - 1, by omega⟩
          have := drop_len hd
          simp only [List.length_nil] at this
          refine lp_scarfref15_Parts_0 n m 11 un _ _ ul _ _ R N us _ _ vl _ _ _ Q (br_dec (fun h => absurd h (by omega)) fun _ => br_ndec (fun c => ?_) fun c => br_dec (fun c2 => ?_) fun c2 => br_dec (fun c3 => ?_) fun c3 => ?_)
          · rw [if_neg (fun h => c h.1)] at hQ; exact hQ
          · rw [if_neg (by omega)] at hQ; exact hQ
          · rw [if_neg (by omega)] at hQ; exact hQ
          · rw [if_pos ⟨c, by omega, by omega, by rw [← ha]; rfl⟩] at hQ
            rw [hw1]; exact hQ
        | cons z r ih =>
          intro i m hd hm ha
          obtain ⟨m, rfl⟩ : ∃ k, m = k + 1 := ⟨m - 1, by omega⟩
          obtain ⟨h1, h2, h3⟩ := drop_get hd
          refine lp_scarfref15_Parts_0 n m 11 un _ _ ul _ _ R N us _ _ vl _ _ _ Q (br_dec (fun _ => ⟨idx_ok h3 (by simp) (by omega), z, by rw [Int.toNat_natCast]; exact ld_map agg_int h1, _, ref_Scalar_cl (by omega) z _, br_intro (fun c => ?_) fun c => ?_⟩) fun h => absurd (by omega) h)
          · rw [if_neg (by rw [← ha]; simp at c; simp [c])] at hQ; exact hQ
          · rw [wrap64 (by omega)]
            exact ih (i + 1) m h2 (by simp at hm; omega) (by rw [← ha]; simp at c; simp [c])
      exact lp S 0 n rfl (by omega) rfl
    · refine br_dec (fun c => ?_) fun c => br_dec (fun k => ?_) fun k19 => ?_
      · by_cases k19 : K = 19
        · subst k19
          have e : ptT (.mk 19 un nm ul l R) (.mk N us S vl L) = if 0 ≤ N ∧ N < (2 : Int) ^ nm.length ∧ S.length = 0 ∧ L.length = 0 then 1 else 0 := by
            unfold ptT leafP; simp only [Tt.K, hr]; rfl
          rw [e, if_neg (by omega)] at hQ; exact hQ
        · have hlf : leafP K nm.length N S L.length = none := by unfold leafP; simp only [hr]; rw [if_neg k10, if_neg k11, if_neg k19]
          have e : ptT (.mk K un nm ul l R) (.mk N us S vl L) = 0 := by
            unfold ptT; simp only [Tt.K, Tt.nm, hlf]; rw [if_pos (by omega)]
          rw [e] at hQ; exact hQ
      · subst k
        have hnm : nm.length ≤ 32 := by unfold OwnP at hown; omega
        have e : ptT (.mk 19 un nm ul l R) (.mk N us S vl L) = if 0 ≤ N ∧ N < (2 : Int) ^ nm.length ∧ S.length = 0 ∧ L.length = 0 then 1 else 0 := by
          unfold ptT leafP; simp only [Tt.K, hr]; rfl
        rw [e] at hQ
        have lp : ∀ (j i m : Nat), i + j = nm.length → j < m → L_scarfref15_Parts_1 n m 19 un nm.length (nm.map str) ul l.length (tcells l) R N us S.length (S.map i64) vl L.length (cellsL L) ((2 : Int) ^ i) (i : Int) Q := by
          intro j
          induction j with
          | zero =>
            intro i m hi hm
            obtain ⟨m, rfl⟩ : ∃ k, m = k + 1 := ⟨m - 1, by omega⟩
            obtain rfl : i = nm.length := by omega
            refine lp_scarfref15_Parts_1 n m 19 un _ _ ul _ _ R N us _ _ vl _ _ _ _ Q (br_dec (fun h => absurd h (by omega)) fun _ => br_dec (fun c1 => ?_) fun c1 => br_dec (fun c2 => ?_) fun c2 => br_dec (fun c3 => ?_) fun c3 => ?_)
            · rw [if_neg (by omega)] at hQ; exact hQ
            · rw [if_neg (fun h => absurd h.2.1 (by omega))] at hQ; exact hQ
            · rw [if_neg (by omega)] at hQ; exact hQ
            · rw [if_pos ⟨by omega, by omega, by omega, by omega⟩] at hQ; exact hQ
          | succ j ih =>
            intro i m hi hm
            obtain ⟨m, rfl⟩ : ∃ k, m = k + 1 := ⟨m - 1, by omega⟩
            have hp := pow_le64 (k := i) (by omega)
            have e0 : IntKind.i64.wrap ((2 : Int) ^ i * 2) = (2 : Int) ^ (i + 1) := by rw [wrap64 (by omega), Int.pow_succ]
            have e1 : IntKind.i64.wrap ((i : Int) + 1) = ((i + 1 : Nat) : Int) := by rw [wrap64 (by omega)]; simp
            refine lp_scarfref15_Parts_1 n m 19 un _ _ ul _ _ R N us _ _ vl _ _ _ _ Q (br_dec (fun _ => ?_) fun h => absurd (by omega) h)
            rw [e0, e1]
            exact ih (i + 1) m (by omega) (by omega)
        have := lp nm.length 0 n (by omega) (by omega)
        exact this
      · have hlf : leafP K nm.length N S L.length = none := by unfold leafP; simp only [hr]; rw [if_neg k10, if_neg k11, if_neg k19]
        exact ⟨_, hins hlf (by omega), hQ⟩

theorem RParts_cl : ∀ (d : Nat) (t : Tt) (v : Vl) (n : Nat) (S : Store), OkT t → okV v d → v.fits → 25000 + 4 * d ≤ n → cl n f_scarfref15_Parts [.agg t.cells, .agg v.cells] S = some (i64 (ptT t v), S) := by
  intro d
  induction d with
  | zero =>
    intro t v n S ht hv hf hn
    obtain ⟨N, us, Sv, vl, L⟩ := v
    obtain ⟨h1, h2, h3, h4⟩ := hv
    omega
  | succ d ih =>
    intro t v n S ht hv hf hn
    obtain ⟨n, rfl⟩ : ∃ k, n = k + 1 + 1 + 1 := ⟨n - 3, by omega⟩
    have hpu := pure_tv t v
    have hL : v.L.length ≤ 20000 := by obtain ⟨N, us, Sv, vl, L⟩ := v; exact hv.2.1
    have hmem : ∀ w ∈ v.L, okV w d ∧ w.fits := by
      obtain ⟨N, us, Sv, vl, L⟩ := v
      intro w hw
      refine ⟨okL_mem hv.2.2.2 hw, ?_⟩
      have : ∀ {l : List Vl}, vfits l → w ∈ l → w.fits := by
        intro l
        induction l with
        | nil => intro _ h; cases h
        | cons y r ih' =>
          intro hf h
          rcases List.mem_cons.1 h with rfl | h
          · exact hf.1
          · exact ih' hf.2 h
      exact this hf.2 hw
    have hsum : ∀ (u u' : Bool) (ts : List Tt), v.L.length ≤ ts.length → (∀ x ∈ ts, OkT x) → cl (n + 1) f_scarfref15_sum [.sl u ts.length (tcells ts), .sl u' v.L.length (cellsL v.L)] S0 = some (i64 (ptL ts v.L 1), S0) := fun u u' ts h1 h2 =>
      sum_of (n := n + 1) u u' ts v.L h1 hL (by omega) (fun x hx w hw => ih x w n S0 (h2 x hx) (hmem w hw).1 (hmem w hw).2 (by omega)) S0
    obtain ⟨u, hIns⟩ := Inside_cl (n := n + 1) t v ht hL (by omega) S0
    have hins : leafP t.K t.nm.length v.N v.S v.L.length = none → v.S.length = 0 → cl (n + 2) f_scarfref15_inside [.agg t.cells, .agg v.cells] S0 = some (i64 (ptT t v), S0) := by
      intro hlf hS
      obtain ⟨e1, e2⟩ := pt_ins ht hlf hS
      rw [e1]
      have hok := fun x => insL_ok (x := x) (N := v.N) (L := v.L.length) ht
      generalize insL t v.N v.L.length = iL at *
      generalize insB t v.N v.L.length = iB at *
      have hs' := fun h => hsum u (match v with | .mk _ _ _ ul _ => ul) iL (e2 h) hok
      clear e1 hsum hok hlf hS ih hmem hf hv ht
      obtain ⟨K, un, nm, ul, l, R⟩ := t
      obtain ⟨N, us, Sv, vl, L⟩ := v
      refine cl_of (by kernel_rfl) hpu (Ret.eq (vc_scarfref15_inside (n + 1) K un _ _ ul _ _ R N us _ _ vl _ _ _ ⟨_, _, _, _, hIns, br_intro (fun c => ⟨?_, rfl⟩) fun c => ⟨_, hs' (by simpa using c), ?_, rfl⟩⟩)) rfl
      · rw [if_neg (by simpa using c)]
      · rw [if_pos (by simpa using c)]
    obtain ⟨K, un, nm, ul, l, R⟩ := t
    obtain ⟨N, us, Sv, vl, L⟩ := v
    exact cl_of (by kernel_rfl) hpu (Ret.eq (RParts_entry (n + 2) K un nm ul l R N us Sv vl L _ ht hf.1 hv.1 hv.2.1 (by omega) hins ⟨rfl, rfl⟩)) rfl
end Go.Proofs.YtmjnfdjhaopeiaaGreatDoor
