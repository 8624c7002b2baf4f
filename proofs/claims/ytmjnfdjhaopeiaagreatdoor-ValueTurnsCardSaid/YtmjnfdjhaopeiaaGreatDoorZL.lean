/-
  A part of the proof: Z34, Z35, Z36.
-/
import Derived.Test.YtmjnfdjhaopeiaaGreatDoorZK
import Derived.Test.YtmjnfdjhaopeiaaGreatDoorZ1c
namespace Go.Proofs.YtmjnfdjhaopeiaaGreatDoor
open Go Go.Pvm
set_option maxRecDepth 100000

/-! ### numbers that handles may not be -/
def badN (z : Int) : Bool := decide (z < 0 ∨ 4294967296 ≤ z)
theorem With1_cl {n : Nat} (h : 2 ≤ n) (z : Int) (S : Store) : cl n f_value_With_1 [i64 z] S = some (bl (badN z), S) := by
  obtain ⟨n, rfl⟩ : ∃ k, n = k + 1 := ⟨n - 1, by omega⟩
  refine cl_of (by kernel_rfl) rfl (Ret.eq (vc_value_With_1 n z _ (br_dec (fun c => ⟨?_, rfl⟩) fun c => ⟨?_, rfl⟩))) rfl
  · unfold badN; rw [decide_eq_true (.inl c)]
  · refine congrArg bl ?_; unfold badN; rw [decide_eq_decide]; omega

theorem WIndexFunc_lp (n : Nat) (u : Bool) (l : List Int) (hn : 2 ≤ n) (hb : l.length ≤ 1000000) (Q : PV → Store → Prop) : ∀ (r : List Int) (i m : Nat), l.drop i = r → r.length < m →
    (∀ z, decide (0 ≤ z) = r.any badN → Q (i64 z) S0) → W.L_slices_IndexFunc_sl_int_int_0 n m u l.length (l.map i64) (i : Int) Q
  | [], i, m, hd, hm, hQ => by
    obtain ⟨m, rfl⟩ : ∃ k, m = k + 1 := ⟨m - 1, by omega⟩
    have := drop_len hd
    refine W.lp_slices_IndexFunc_sl_int_int_0 n m u _ _ _ Q (br_dec (fun h => ?_) fun _ => ?_)
    · simp at this; omega
    · exact hQ _ (by simp)
  | x :: r, i, m, hd, hm, hQ => by
    obtain ⟨m, rfl⟩ : ∃ k, m = k + 1 := ⟨m - 1, by omega⟩
    obtain ⟨h1, h2, h3⟩ := drop_get hd
    refine W.lp_slices_IndexFunc_sl_int_int_0 n m u _ _ _ Q (br_dec (fun h => ?_) fun h => absurd (by omega) h)
    refine ⟨idx_ok h3 (by simp) (by omega), x, ?_, _, With1_cl hn x _, br_intro (fun hs => hQ _ ?_) fun hs => ?_⟩
    · rw [Int.toNat_natCast]; exact ld_map agg_int h1
    · simp [hs]
    · rw [wrap64 (by omega)]
      exact WIndexFunc_lp n u l hn hb Q r (i + 1) m h2 (by simp at hm; omega) fun z hz => hQ z (by simp [hz, hs])

theorem WContainsFunc_cl {n : Nat} (u : Bool) (l : List Int) (hn : l.length + 10 ≤ n) (hb : l.length ≤ 1000000) (S : Store) :
    cl n f_slices_ContainsFunc_sl_int_int [.sl u l.length (l.map i64), .fn (.func f_value_With_1) [] []] S = some (bl (l.any badN), S) := by
  obtain ⟨n, rfl⟩ : ∃ k, n = k + 1 + 1 := ⟨n - 2, by omega⟩
  refine cl_of (by kernel_rfl) rfl (Ret.eq (W.vc_slices_ContainsFunc_sl_int_int (n + 1) u _ _ _ ?_)) rfl
  have h : Ret cfg (n + 1) f_slices_IndexFunc_sl_int_int [.sl u l.length (l.map i64), .fn (.func f_value_With_1) [] []] S0 fun p T => ∃ z, p = i64 z ∧ T = S0 ∧ decide (0 ≤ z) = l.any badN :=
    W.vc_slices_IndexFunc_sl_int_int n u _ _ _ (WIndexFunc_lp n u l (by omega) hb _ l 0 n rfl (by omega) fun z hz => ⟨z, rfl, rfl, hz⟩)
  obtain ⟨p, T, h1, z, rfl, rfl, hz⟩ := h
  exact ⟨z, cl_of (by kernel_rfl) rfl h1 rfl, by simp [bl, hz, ge_iff_le], rfl⟩

/-! ### a value is one that is the same but for how its slices lie -/
theorem RSame_lp (n : Nat) (N : Int) (us : Bool) (S : List Int) (vl : Bool) (L : List Vl) (N' : Int) (us' : Bool) (S' : List Int) (vl' : Bool) (L' : List Vl) (hL : L.length ≤ 20000) (hlen : L.length = L'.length) (Q : PV → Store → Prop) (hQ : Q (bl true) S0)
    (hs : ∀ (i : Nat) (v w : Vl), L[i]? = some v → L'[i]? = some w → cl n f_scarfref15_Same [.agg v.cells, .agg w.cells] S0 = some (bl true, S0)) :
    ∀ (k i m : Nat), i + k = L.length → k < m → L_scarfref15_Same_0 n m N us S.length (S.map i64) vl L.length (cellsL L) N' us' S'.length (S'.map i64) vl' L'.length (cellsL L') (i : Int) Q
  | 0, i, m, hi, hm => by
    obtain ⟨m, rfl⟩ : ∃ k, m = k + 1 := ⟨m - 1, by omega⟩
    exact lp_scarfref15_Same_0 n m N us _ _ vl _ _ N' us' _ _ vl' _ _ _ Q (br_dec (fun h => absurd h (by omega)) fun _ => hQ)
  | k + 1, i, m, hi, hm => by
    obtain ⟨m, rfl⟩ : ∃ k, m = k + 1 := ⟨m - 1, by omega⟩
    have g1 : L[i]? = some L[i] := List.getElem?_eq_getElem (by omega)
    have g2 : L'[i]? = some L'[i] := List.getElem?_eq_getElem (by omega)
    have hc := hs i _ _ g1 g2
    have hv := ld_V g1
    have hw := ld_V g2
    have hi0 := idx_ok (n := L.length) (i := i) (by omega) (cellsL_length L) (k := 3) (by omega)
    have hi1 := idx_ok (n := L'.length) (i := i) (by omega) (cellsL_length L') (k := 3) (by omega)
    have e1 : IntKind.i64.wrap ((i : Int) + 1) = ((i + 1 : Nat) : Int) := by rw [wrap64 (by omega)]; simp
    have ih := RSame_lp n N us S vl L N' us' S' vl' L' hL hlen Q hQ hs k (i + 1) m (by omega) (by omega)
    rw [← e1] at ih
    generalize L[i] = v at *
    generalize L'[i] = w at *
    clear hs g1 g2
    obtain ⟨N1, us1, S1, ul1, L1⟩ := v
    obtain ⟨N2, us2, S2, ul2, L2⟩ := w
    exact lp_scarfref15_Same_0 n m N us _ _ vl _ _ N' us' _ _ vl' _ _ _ Q (br_dec (fun _ => ⟨hi0, _, _, _, _, _, _, _, hv, hi1, _, _, _, _, _, _, _, hw, _, hc, ih⟩) fun h => absurd (by omega) h)

theorem erL_get : ∀ {l : List Vl} {i : Nat} {v : Vl}, l[i]? = some v → (erL l)[i]? = some (er v)
  | [], i, v, h => by simp at h
  | u :: r, 0, v, h => by simp at h; subst h; unfold erL; rfl
  | u :: r, i + 1, v, h => by unfold erL; simpa using erL_get (by simpa using h)

theorem pure_vv (v w : Vl) : pureL? [.agg v.cells, .agg w.cells] = true := by simp [pureL?, pure?, pure_cells]
theorem RSame_cl : ∀ (d : Nat) (v w : Vl) (n : Nat), okV v d → er v = er w → 25000 + 2 * d ≤ n → ∀ S, cl n f_scarfref15_Same [.agg v.cells, .agg w.cells] S = some (bl true, S) := by
  intro d
  induction d with
  | zero => intro v w n hv; exact (ok_zero hv).elim
  | succ d ih =>
    intro v w n hv he hn S
    obtain ⟨n, rfl⟩ : ∃ k, n = k + 1 := ⟨n - 1, by omega⟩
    have hpu := pure_vv v w
    obtain ⟨N, us, Sv, vl, L⟩ := v
    obtain ⟨N', us', Sv', vl', L'⟩ := w
    have hS : Sv.length ≤ 20000 := hv.1
    obtain ⟨hL, hw⟩ := ok_items hv
    unfold er at he
    simp only [Vl.mk.injEq, true_and] at he
    obtain ⟨rfl, rfl, heL⟩ := he
    have hlen : L.length = L'.length := by rw [← erL_len L, ← erL_len L', heL]
    have hs := LSame_cl (n := n) us us' Sv (by omega) (by omega) S0
    refine cl_of (by kernel_rfl) hpu (Ret.eq (vc_scarfref15_Same n N us _ _ vl _ _ N us' _ _ vl' _ _ _ (br_ndec (fun h => absurd rfl h) fun _ => ⟨_, hs, br_ndec (fun h => absurd (by omega) h) fun _ => ?_⟩))) rfl
    exact RSame_lp n N us Sv vl L N us' Sv vl' L' hL hlen _ ⟨rfl, rfl⟩ (fun i v w h1 h2 => ih v w n (hw v (List.mem_of_getElem? h1)) (by
      have a := erL_get h1
      have b := erL_get h2
      rw [heL, b] at a
      exact (Option.some.inj a).symm) (by omega) S0) L.length 0 n (by omega) (by omega)

theorem zero_same (n : Nat) : run cfg (n + 20) f_value_Same [.agg [i64 0, .sl true 0 [], .sl true 0 []], .agg [i64 0, .sl true 0 [], .sl true 0 []]] S0 = some (bl true, S0) := by kernel_rfl
theorem VSame_cl {n : Nat} (h : 20 ≤ n) (S : Store) : cl n f_value_Same [.agg [i64 0, .sl true 0 [], .sl true 0 []], .agg [i64 0, .sl true 0 [], .sl true 0 []]] S = some (bl true, S) := by
  obtain ⟨n, rfl⟩ : ∃ k, n = k + 20 := ⟨n - 20, by omega⟩
  exact cl_of (by kernel_rfl) rfl (zero_same n) rfl

/-! ### value.With -/
def right (t : Tt) (v : Vl) (ns : List Int) : Bool := decide ((hs t v).length = ns.length) && !(ns.any badN)
theorem good_of {ns : List Int} (h : ns.any badN = false) : ∀ z ∈ ns, 0 ≤ z ∧ z < 4294967296 := fun z hz => by
  have := List.any_eq_false.1 h z hz
  unfold badN at this
  have := of_decide_eq_false (by simpa using this : decide (z < 0 ∨ 4294967296 ≤ z) = false)
  omega

theorem VWith_cl {n : Nat} (t : Tt) (v : Vl) (u : Bool) (ns : List Int) (hf : t.fits) (hv : okV v 21) (hb : ns.length ≤ 5000) (hn : t.sz + 26001 ≤ n) (S : Store) :
    (chk t v ≠ 0 → cl n f_value_With [.agg t.cells, .agg v.cells, .sl u ns.length (ns.map i64)] S = some (.tup [.agg [i64 0, .sl true 0 [], .sl true 0 []], i64 (chk t v)], S)) ∧
    (chk t v = 0 → right t v ns = false → cl n f_value_With [.agg t.cells, .agg v.cells, .sl u ns.length (ns.map i64)] S = some (.tup [.agg [i64 0, .sl true 0 [], .sl true 0 []], i64 1], S)) ∧
    (chk t v = 0 → right t v ns = true → ∃ w : Vl, er w = (wT t v ns).1 ∧ cl n f_value_With [.agg t.cells, .agg v.cells, .sl u ns.length (ns.map i64)] S = some (.tup [.agg w.cells, i64 0], S)) := by
  obtain ⟨n, rfl⟩ : ∃ k, n = k + 1 := ⟨n - 1, by omega⟩
  have hpu := pure_tvn t v u ns
  have h1 := VCheck_cl (n := n) t v hf hv (by omega) S0
  have hok : chk t v = 0 → OkT t ∧ ptT t v ≠ 0 := fun h => by
    unfold chk at h
    by_cases hm : mayT t = true
    · rw [if_pos hm] at h
      exact ⟨mayT_ok hf hm, fun h0 => by rw [if_pos h0] at h; omega⟩
    · rw [if_neg hm] at h; omega
  have h2 : chk t v = 0 → TN f_value_handles n t v S0 := fun h => handles_cl 21 t v n (hok h).1 hv (hok h).2 (by omega) S0
  have h3 := WContainsFunc_cl (n := n) u ns (by omega) (by omega) S0
  have h4 : chk t v = 0 → right t v ns = true → WN f_value_with n t v u ns S0 := fun h hr => by
    unfold right at hr
    simp only [Bool.and_eq_true, decide_eq_true_eq, Bool.not_eq_true'] at hr
    exact with_cl 21 t v n (hok h).1 hv (hok h).2 (by omega) u ns S0 (by omega) (good_of hr.2)
  unfold TN at *
  unfold WN at h4
  unfold right at *
  generalize chk t v = c at *
  generalize hs t v = H at *
  generalize (wT t v ns).1 = W1 at *
  generalize (wT t v ns).2 = W2 at *
  generalize ns.any badN = B at *
  obtain ⟨K, un, nm, ul, l, R⟩ := t
  obtain ⟨N, us, Sv, vl, L⟩ := v
  refine ⟨fun hc => ?_, fun hc hr => ?_, fun hc hr => ?_⟩
  · exact cl_of (by kernel_rfl) hpu (Ret.eq (vc_value_With n K un _ _ ul _ _ R N us _ _ vl _ _ u _ _ _ ⟨_, h1, br_ndec (fun _ => ⟨rfl, rfl⟩) fun h => absurd h hc⟩)) rfl
  · obtain ⟨u1, u2, h⟩ := h2 hc
    refine cl_of (by kernel_rfl) hpu (Ret.eq (vc_value_With n K un _ _ ul _ _ R N us _ _ vl _ _ u _ _ _ ⟨_, h1, br_ndec (fun h => absurd hc h) fun _ => ⟨_, _, _, _, _, _, h, br_ndec (fun _ => ⟨rfl, rfl⟩) fun e => ⟨_, h3, ?_⟩⟩⟩)) rfl
    rw [decide_eq_true (by omega), Bool.true_and] at hr
    have : B = true := by simpa using hr
    subst this
    exact ⟨rfl, rfl⟩
  · obtain ⟨u1, u2, h⟩ := h2 hc
    obtain ⟨w, u', hw, h⟩ := h4 hc hr
    simp only [Bool.and_eq_true, decide_eq_true_eq, Bool.not_eq_true'] at hr
    obtain ⟨hr1, rfl⟩ := hr
    rename_i h'
    obtain ⟨Nw, usw, Sw, ulw, Lw⟩ := w
    exact ⟨_, hw, cl_of (by kernel_rfl) hpu (Ret.eq (vc_value_With n K un _ _ ul _ _ R N us _ _ vl _ _ u _ _ _ ⟨_, h1, br_ndec (fun h => absurd hc h) fun _ => ⟨_, _, _, _, _, _, h', br_ndec (fun e => absurd (by omega) e) fun e => ⟨_, h3, ⟨_, _, _, _, _, _, _, _, _, _, h, rfl, rfl⟩⟩⟩⟩)) rfl⟩
end Go.Proofs.YtmjnfdjhaopeiaaGreatDoor

namespace Go.Proofs.YtmjnfdjhaopeiaaGreatDoor
open Go Go.Pvm
set_option maxRecDepth 100000

theorem Turns_lp (n : Nat) (K : Int) (un : Bool) (nm : List ByteArray) (ul : Bool) (l : List Tt) (R N : Int) (us : Bool) (Sv : List Int) (vl : Bool) (L : List Vl) (u : Bool) (ns : List Int) (hb : ns.length ≤ 5000) (e : Int) (x3 : Int) (x4 : Bool) (x5 : Nat) (x6 : List PV) (x7 : Bool) (x8 : Nat) (x9 : List PV) (Q : PV → Store → Prop) :
    ∀ (r : List Int) (i m : Nat) (b : Bool), ns.drop i = r → i ≤ ns.length → r.length < m →
      (∀ m, L_scarflaw15_ValueTurns_0 n (m + 1) K un nm.length (nm.map str) ul l.length (tcells l) R N us Sv.length (Sv.map i64) vl L.length (cellsL L) u ns.length (ns.map i64) e (b && !(r.any badN)) ((ns.length : Nat) : Int) x3 x4 x5 x6 x7 x8 x9 Q) →
      L_scarflaw15_ValueTurns_0 n m K un nm.length (nm.map str) ul l.length (tcells l) R N us Sv.length (Sv.map i64) vl L.length (cellsL L) u ns.length (ns.map i64) e b (i : Int) x3 x4 x5 x6 x7 x8 x9 Q
  | [], i, m, b, hd, hle, hm, hQ => by
    obtain ⟨m, rfl⟩ : ∃ k, m = k + 1 := ⟨m - 1, by omega⟩
    have h := drop_len hd
    simp only [List.length_nil] at h
    have hQ' := hQ m
    simp only [List.any_nil, Bool.not_false, Bool.and_true] at hQ'
    have hi : i = ns.length := by omega
    rw [hi]; exact hQ'
  | x :: r, i, m, b, hd, hle, hm, hQ => by
    obtain ⟨m, rfl⟩ : ∃ k, m = k + 1 := ⟨m - 1, by omega⟩
    obtain ⟨g1, g2, g3⟩ := drop_get hd
    have hi := idx_ok g3 (len := (ns.map i64).length) (k := 1) (by simp) (by omega)
    have hx : ld prog t_int (ns.map i64) (Int.toNat (i : Int) * 1) (i64 x) := by
      rw [Int.toNat_natCast]; exact ld_map (f := fun z : Int => i64 z) agg_int g1
    have e1 : IntKind.i64.wrap ((i : Int) + 1) = ((i + 1 : Nat) : Int) := by rw [wrap64 (by omega)]; simp
    have ih := fun b' h => Turns_lp n K un nm ul l R N us Sv vl L u ns hb e x3 x4 x5 x6 x7 x8 x9 Q r (i + 1) m b' g2 (by omega) (by simp at hm; omega) h
    rw [← e1] at ih
    rw [List.any_cons] at hQ
    refine lp_scarflaw15_ValueTurns_0 n m K un _ _ ul _ _ R N us _ _ vl _ _ u _ _ e b _ _ _ _ _ _ _ _ Q (br_dec (fun _ => br_intro (fun hb' => ⟨hi, _, hx, br_dec (fun c => ⟨hi, _, hx, ?_⟩) fun c => ?_⟩) fun hb' => ?_) fun h => absurd (by omega) h)
    · refine ih _ ?_
      by_cases c2 : x < 4294967296
      · have : badN x = false := by unfold badN; exact decide_eq_false (by omega)
        rw [this, hb'] at hQ
        rw [decide_eq_true c2]; simpa using hQ
      · have : badN x = true := by unfold badN; exact decide_eq_true (by omega)
        rw [this, hb'] at hQ
        rw [decide_eq_false c2]; simpa using hQ
    · refine ih _ ?_
      have : badN x = true := by unfold badN; exact decide_eq_true (by omega)
      rw [this, hb'] at hQ
      simpa using hQ
    · refine ih _ ?_
      rw [hb'] at hQ
      simpa using hQ
end Go.Proofs.YtmjnfdjhaopeiaaGreatDoor

namespace Go.Proofs.YtmjnfdjhaopeiaaGreatDoor
open Go Go.Pvm
set_option maxRecDepth 100000

theorem chk_ok {t : Tt} {v : Vl} (hf : t.fits) (h : chk t v = 0) : mayT t = true ∧ OkT t ∧ ptT t v ≠ 0 := by
  unfold chk at h
  by_cases hm : mayT t = true
  · rw [if_pos hm] at h
    exact ⟨hm, mayT_ok hf hm, fun h0 => by rw [if_pos h0] at h; omega⟩
  · rw [if_neg hm] at h; omega

/-- What is known of a value with other numbers. -/
theorem turned {t : Tt} {v w : Vl} {ns : List Int} (hf : t.fits) (hv : okV v 21) (h : chk t v = 0) (hr : right t v ns = true) (hw : er w = (wT t v ns).1) :
    okV w 21 ∧ chk t w = 0 ∧ (hs t w).map (·.2) = ns := by
  obtain ⟨hm, hO, hp⟩ := chk_ok hf h
  unfold right at hr
  simp only [Bool.and_eq_true, decide_eq_true_eq, Bool.not_eq_true'] at hr
  obtain ⟨_, a2, a3, a4⟩ := wT_ok v t ns hO hp (by omega) (good_of hr.2)
  rw [← hw] at a2 a3 a4
  refine ⟨okV_er w 21 (a4 21 hv), ?_, ?_⟩
  · rw [ptT_er] at a2
    unfold chk
    rw [if_pos hm, if_neg (by rw [a2]; exact hp)]
  · rw [hs_er] at a3
    rw [a3, List.take_of_length_le (by omega)]

theorem ValueTurns_run (t : Tt) (v : Vl) (u : Bool) (ns : List Int) (hf : t.fits) (hvf : v.fits) : ∃ n, run cfg n f_scarflaw15_ValueTurns [.agg t.cells, .agg v.cells, .sl u ns.length (ns.map i64)] S0 = some (bl true, S0) := by
  refine ⟨t.sz + 40000 + 1, Ret.eq ?_⟩
  have hl := Light_cl (n := t.sz + 40000) v (by omega) S0
  have ha := awake_cl (n := t.sz + 40000) (by omega) S0
  by_cases hli : light v = true
  case neg =>
    rw [Bool.not_eq_true] at hli
    rw [hli] at hl
    generalize t.sz + 40000 = n at *
    clear hf hvf hli
    obtain ⟨K, un, nm, ul, l, R⟩ := t
    obtain ⟨N, us, Sv, vl, L⟩ := v
    exact vc_scarflaw15_ValueTurns n K un _ _ ul _ _ R N us _ _ vl _ _ u _ _ _ ⟨_, hl, ⟨_, ha, rfl, rfl⟩⟩
  rw [hli] at hl
  by_cases hb : (ns.length : Int) > 5000
  · generalize t.sz + 40000 = n at *
    clear hf hvf hli
    obtain ⟨K, un, nm, ul, l, R⟩ := t
    obtain ⟨N, us, Sv, vl, L⟩ := v
    exact vc_scarflaw15_ValueTurns n K un _ _ ul _ _ R N us _ _ vl _ _ u _ _ _ ⟨_, hl, br_dec (fun _ => ⟨_, ha, rfl, rfl⟩) fun c => absurd hb c⟩
  have hb5 : ns.length ≤ 5000 := by omega
  have hv := light_ok hli
  have hc := RCheck_cl (n := t.sz + 40000) t v hf hv hvf (by omega) S0
  have hz := VSame_cl (n := t.sz + 40000) (by omega) S0
  obtain ⟨w1, w2, w3⟩ := VWith_cl (n := t.sz + 40000) t v u ns hf hv hb5 (by omega) S0
  by_cases h0 : chk t v = 0
  case neg =>
    have w1 := w1 h0
    clear w2 w3
    generalize chk t v = c at *
    generalize t.sz + 40000 = n at *
    clear hf hvf hli hv
    obtain ⟨K, un, nm, ul, l, R⟩ := t
    obtain ⟨N, us, Sv, vl, L⟩ := v
    exact vc_scarflaw15_ValueTurns n K un _ _ ul _ _ R N us _ _ vl _ _ u _ _ _ ⟨_, hl, br_dec (fun c => absurd c hb) fun _ => ⟨_, _, _, _, _, _, _, _, w1, _, hc, br_ndec (fun _ => br_dec (fun _ => ⟨_, hz, ⟨_, ha, rfl, rfl⟩⟩) fun e => absurd rfl e) fun e => absurd e h0⟩⟩
  obtain ⟨hm, hO, hp⟩ := chk_ok hf h0
  obtain ⟨u3, u4, hR⟩ := RHandles_cl 21 t v (t.sz + 40000) hO hv hp (by omega) S0
  rw [h0] at hc
  have hN : 26000 ≤ t.sz + 40000 := by omega
  by_cases hr : right t v ns = true
  case neg =>
    rw [Bool.not_eq_true] at hr
    have w2 := w2 h0 hr
    clear w1 w3
    unfold right at hr
    generalize hs t v = H at *
    generalize t.sz + 40000 = n at *
    clear hf hvf hli hv hO hp hm h0
    obtain ⟨K, un, nm, ul, l, R⟩ := t
    obtain ⟨N, us, Sv, vl, L⟩ := v
    refine vc_scarflaw15_ValueTurns n K un _ _ ul _ _ R N us _ _ vl _ _ u _ _ _ ⟨_, hl, br_dec (fun c => absurd c hb) fun _ => ⟨_, _, _, _, _, _, _, _, w2, _, hc, br_ndec (fun e => absurd rfl e) fun _ => ⟨_, _, _, _, _, _, hR, ?_⟩⟩⟩
    have e : decide (((H.length : Nat) : Int) = ((ns.length : Nat) : Int)) = decide (H.length = ns.length) := decide_eq_decide.2 (by omega)
    rw [e]
    refine Turns_lp n K un nm ul l R N us Sv vl L u ns hb5 1 _ _ _ _ _ _ _ _ ns 0 n _ rfl (by omega) (by omega) fun m => ?_
    rw [hr]
    exact lp_scarflaw15_ValueTurns_0 n m K un _ _ ul _ _ R N us _ _ vl _ _ u _ _ 1 false _ _ _ _ _ _ _ _ _ (br_dec (fun c => absurd c (by omega)) fun _ => br_intro (fun _ => br_dec (fun _ => ⟨_, hz, ⟨_, ha, rfl, rfl⟩⟩) fun c => absurd rfl c) fun h => absurd h (by decide))
  · obtain ⟨w, hw, hW⟩ := w3 h0 hr
    obtain ⟨hvw, hcw, hns⟩ := turned hf hv h0 hr hw
    have hr2 := hr
    unfold right at hr2
    simp only [Bool.and_eq_true, decide_eq_true_eq, Bool.not_eq_true'] at hr2
    obtain ⟨w', u', hw', hW'⟩ := RWith_cl 21 t v (t.sz + 40000) hO hv hp (by omega) u ns S0 (by omega) (good_of hr2.2)
    obtain ⟨_, hVH⟩ := VHandles_cl (n := t.sz + 40000) t w hf hvw (by omega) S0
    obtain ⟨u5, u6, hVH⟩ := hVH hcw
    have hVC := VCheck_cl (n := t.sz + 40000) t w hf hvw (by omega) S0
    rw [hcw] at hVC
    have hS := RSame_cl 21 w w' (t.sz + 40000) hvw (by rw [hw, hw']) (by omega) S0
    have hLS := LSame_cl (n := t.sz + 40000) u6 u ns (by omega) (by omega) S0
    have hlen : (hs t w).length = ns.length := by rw [← hns, List.length_map]
    rw [aN_map, hns, hlen] at hVH
    unfold right at hr
    clear w1 w2 w3 hns hlen hvw hw hw' hr2
    generalize hs t v = H at *
    generalize aT (hs t w) = T5 at *
    generalize (wT t v ns).2 = W2 at *
    generalize t.sz + 40000 = n at *
    clear hf hvf hli hv hO hp hm h0
    obtain ⟨K, un, nm, ul, l, R⟩ := t
    obtain ⟨N, us, Sv, vl, L⟩ := v
    obtain ⟨Nw, usw, Sw, ulw, Lw⟩ := w
    obtain ⟨Nx, usx, Sx, ulx, Lx⟩ := w'
    refine vc_scarflaw15_ValueTurns n K un _ _ ul _ _ R N us _ _ vl _ _ u _ _ _ ⟨_, hl, br_dec (fun c => absurd c hb) fun _ => ⟨_, _, _, _, _, _, _, _, hW, _, hc, br_ndec (fun e => absurd rfl e) fun _ => ⟨_, _, _, _, _, _, hR, ?_⟩⟩⟩
    have e : decide (((H.length : Nat) : Int) = ((ns.length : Nat) : Int)) = decide (H.length = ns.length) := decide_eq_decide.2 (by omega)
    rw [e]
    refine Turns_lp n K un nm ul l R N us Sv vl L u ns hb5 0 _ _ _ _ _ _ _ _ ns 0 n _ rfl (by omega) (by omega) fun m => ?_
    rw [hr]
    exact lp_scarflaw15_ValueTurns_0 n m K un _ _ ul _ _ R N us _ _ vl _ _ u _ _ 0 true _ _ _ _ _ _ _ _ _ (br_dec (fun c => absurd c (by omega)) fun _ => br_intro (fun h => absurd h (by decide)) fun _ => ⟨_, _, _, _, _, _, _, _, _, _, hW', _, _, _, _, _, _, hVH, br_dec (fun _ => ⟨_, hS, ⟨_, hLS, ⟨_, hVC, br_dec (fun _ => ⟨_, ha, rfl, rfl⟩) fun c => absurd rfl c⟩⟩⟩) fun c => absurd rfl c⟩)
end Go.Proofs.YtmjnfdjhaopeiaaGreatDoor
