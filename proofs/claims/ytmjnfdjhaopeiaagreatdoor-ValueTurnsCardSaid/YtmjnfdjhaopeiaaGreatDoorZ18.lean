/-
  A part of the proof: Z18.
-/
import Derived.Test.YtmjnfdjhaopeiaaGreatDoorZF
namespace Go.Proofs.YtmjnfdjhaopeiaaGreatDoor
open Go Go.Pvm
set_option maxRecDepth 100000

/-! ### chapter 15's examples -/
def ok? : Option (PV × Store) → Bool
  | some (.s (.bool true), _) => true
  | _ => false
theorem ok?_elim {r : Option (PV × Store)} (h : ok? r = true) : ∃ S, r = some (bl true, S) := by
  unfold ok? at h
  split at h
  · exact ⟨_, rfl⟩
  · cases h
theorem awake_any (n : Nat) : ok? (run cfg (n + 60) f_scarflaw15_awake [] ⟨[], 0⟩) = true := by kernel_rfl
theorem awake_cl {n : Nat} (hn : 60 ≤ n) (S : Store) : cl n f_scarflaw15_awake [] S = some (bl true, S) := by
  obtain ⟨n, rfl⟩ : ∃ k, n = k + 60 := ⟨n - 60, by omega⟩
  obtain ⟨S, h⟩ := ok?_elim (awake_any n)
  exact cl_frz (by kernel_rfl) rfl h rfl

/-! ### weigh, Light -/
mutual
theorem weigh_cl : ∀ (v : Vl) (deep : Int) (n : Nat) (S : Store), 0 ≤ deep → deep ≤ 21 → 25000 + (22 - deep).toNat ≤ n → cl n f_scarflaw15_weigh [.agg v.cells, i64 deep] S = some (i64 (wt v deep), S)
  | .mk N us ss ul l, deep, n, S, h0, h1, hn => by
    obtain ⟨n, rfl⟩ : ∃ k, n = k + 1 := ⟨n - 1, by omega⟩
    refine cl_of (by kernel_rfl) (by simp [pureL?, pure?, pure_cells]) (Ret.eq (vc_scarflaw15_weigh n N us _ _ ul _ _ deep _ (br_dec (fun c => ⟨?_, rfl⟩) fun c => br_dec (fun c2 => ⟨?_, rfl⟩) fun c2 => br_dec (fun c3 => ⟨?_, rfl⟩) fun c3 => ?_))) rfl
    · simp only [wt]; rw [if_pos (by omega)]
    · simp only [wt]; rw [if_pos (by omega)]
    · simp only [wt]; rw [if_pos (by omega)]
    · rw [wrap64 (by omega)]
      refine weigh_lp l l 0 N us ss ul deep _ n n _ rfl (by omega) (by omega) (by omega) (by omega) (by omega) (by omega) ⟨?_, rfl⟩
      simp only [wt]; rw [if_neg (by omega)]
theorem weigh_lp : ∀ (r l : List Vl) (i : Nat) (N : Int) (us : Bool) (ss : List Int) (ul : Bool) (deep acc : Int) (n m : Nat) (Q : PV → Store → Prop), l.drop i = r → l.length ≤ 20000 → r.length < m → 0 ≤ deep → deep ≤ 20 →
    (0 ≤ acc ∧ acc ≤ 20001 + 1073741824 + 20001 * (21 - deep)) → 25000 + (22 - (deep + 1)).toNat ≤ n → Q (i64 (wtL r (deep + 1) acc)) S0 →
    L_scarflaw15_weigh_0 n m N us ss.length (ss.map i64) ul l.length (cellsL l) deep acc (i : Int) Q
  | [], l, i, N, us, ss, ul, deep, acc, n, m, Q, hd, hl, hm, h0, h1, ha, hn, hQ => by
    obtain ⟨m, rfl⟩ : ∃ k, m = k + 1 := ⟨m - 1, by omega⟩
    have := drop_len hd
    simp only [List.length_nil] at this
    exact lp_scarflaw15_weigh_0 n m N us _ _ ul _ _ deep acc _ Q (br_dec (fun h => absurd h (by omega)) fun _ => hQ)
  | v :: r, l, i, N, us, ss, ul, deep, acc, n, m, Q, hd, hl, hm, h0, h1, ha, hn, hQ => by
    obtain ⟨m, rfl⟩ : ∃ k, m = k + 1 := ⟨m - 1, by omega⟩
    obtain ⟨g1, g2, g3⟩ := drop_get hd
    simp only [wtL] at hQ
    refine lp_scarflaw15_weigh_0 n m N us _ _ ul _ _ deep acc _ Q (br_dec (fun _ => br_dec (fun c => ?_) fun c => ?_) fun h => absurd (by omega) h)
    · rw [if_pos c] at hQ
      have hv := ld_V g1
      have hi := idx_ok g3 (cellsL_length l) (k := 3) (by omega)
      have hb := wt_le v (deep + 1) (by omega)
      have hp := wt_pos v (deep + 1)
      have e1 : IntKind.i64.wrap ((i : Int) + 1) = ((i + 1 : Nat) : Int) := by rw [wrap64 (by omega)]; simp
      have e2 : IntKind.i64.wrap (deep + 1) = deep + 1 := wrap64 (by omega)
      have e3 : IntKind.i64.wrap (acc + wt v (deep + 1)) = acc + wt v (deep + 1) := wrap64 (by omega)
      have ih := weigh_cl v (deep + 1) n S0 (by omega) (by omega) hn
      have go := weigh_lp r l (i + 1) N us ss ul deep (acc + wt v (deep + 1)) n m Q g2 hl (by simp at hm; omega) h0 h1 ⟨by omega, by omega⟩ hn hQ
      rw [e1, e2]
      rw [← e3] at go
      clear hQ
      generalize wt v (deep + 1) = w at *
      obtain ⟨N', us', S', ul', L'⟩ := v
      exact ⟨hi, _, _, _, _, _, _, _, hv, _, ih, go⟩
    · rw [if_neg c] at hQ; exact hQ
end

def light (a : Vl) : Bool := decide (wt a 0 ≤ 20000)
theorem Light_cl {n : Nat} (v : Vl) (hn : 25030 ≤ n) (S : Store) : cl n f_scarflaw15_Light [.agg v.cells] S = some (bl (light v), S) := by
  obtain ⟨n, rfl⟩ : ∃ k, n = k + 1 := ⟨n - 1, by omega⟩
  have h := weigh_cl v 0 n S0 (by omega) (by omega) (by omega)
  have hp : pureL? [.agg v.cells] = true := by simp [pureL?, pure?, pure_cells]
  unfold light
  generalize wt v 0 = w at *
  obtain ⟨N, us, S', ul, L⟩ := v
  exact cl_of (by kernel_rfl) hp (Ret.eq (vc_scarflaw15_Light n N us _ _ ul _ _ _ ⟨_, h, rfl, rfl⟩)) rfl
theorem light_ok {v : Vl} (h : light v = true) : okV v 21 := ok_of_wt v 0 21 rfl (of_decide_eq_true h)

/-! ### Args -/
theorem mayT_ok {t : Tt} (hf : t.fits) (h : mayT t = true) : OkT t := by
  simp only [mayT, Bool.and_eq_true] at h
  exact ⟨hf, 0, by omega, h.1⟩

def argsI (s : Sg) (L : List Vl) : Int := if maySig s = true then (if L.length = s.t.length then (if ptL s.t L 1 = 0 then 6 else 0) else 6) else 1

theorem pure_sv (s : Sg) (u : Bool) (k : Nat) (cs : List PV) : pureL? [.agg s.cells, .sl u k cs] = true := by simp [pureL?, pure?, pure_tcells, Sg.cells]

theorem maySig_all {s : Sg} (hf : s.fits) (h : maySig s = true) : ∀ t ∈ s.t, OkT t := by
  intro t ht
  simp only [maySig, Bool.and_eq_true] at h
  exact mayT_ok (tfits_mem hf.2.2.1 ht) (List.all_eq_true.1 h.2.2.2 t ht)

theorem Args_cl {n : Nat} (s : Sg) (u : Bool) (L : List Vl) (hf : s.fits) (hL : L.length ≤ 20000) (hv : ∀ v ∈ L, okV v 21) (hn : s.sz + 26000 ≤ n) (S : Store) :
    cl n f_value_Args [.agg s.cells, .sl u L.length (cellsL L)] S = some (i64 (argsI s L), S) := by
  obtain ⟨n, rfl⟩ : ∃ k, n = k + 1 := ⟨n - 1, by omega⟩
  have hc := CheckSig_cl (n := n) s hf (by omega) S0
  have hall : maySig s = true → L.length = s.t.length → cl n f_value_all [.sl s.tu s.t.length (tcells s.t), .sl u L.length (cellsL L)] S0 = some (i64 (ptL s.t L 1), S0) := fun h e =>
    all_cl s.tu u s.t L 21 (by omega) hL (maySig_all hf h) hv (by omega) S0
  have hp := pure_sv s u L.length (cellsL L)
  unfold argsI
  generalize maySig s = b at *
  obtain ⟨nm0, pu, p, tu, t, r⟩ := s
  obtain ⟨K, un, nm, ul, l, R⟩ := r
  refine cl_of (by kernel_rfl) hp (Ret.eq (vc_value_Args n nm0 pu _ _ tu _ _ K un _ _ ul _ _ R u _ _ _ ⟨_, hc, ?_⟩)) rfl
  cases b with
  | false => exact ⟨rfl, rfl⟩
  | true =>
    refine br_ndec (fun c => absurd rfl c) fun _ => br_ndec (fun c => ⟨?_, rfl⟩) fun c => ⟨_, hall rfl (by omega), br_dec (fun c2 => ⟨?_, rfl⟩) fun c2 => ⟨?_, rfl⟩⟩
    · rw [if_pos rfl, if_neg (fun h => c (by rw [h]))]
    · rw [if_pos rfl, if_pos (by simp only at c ⊢; omega), if_pos c2]
    · rw [if_pos rfl, if_pos (by simp only at c ⊢; omega), if_neg c2]

theorem RArgs_cl {n : Nat} (s : Sg) (u : Bool) (L : List Vl) (hf : s.fits) (hL : L.length ≤ 20000) (hv : ∀ v ∈ L, okV v 21) (hvf : ∀ v ∈ L, v.fits) (hn : s.sz + 26000 ≤ n) (S : Store) :
    cl n f_scarfref15_Args [.agg s.cells, .sl u L.length (cellsL L)] S = some (i64 (argsI s L), S) := by
  obtain ⟨n, rfl⟩ : ∃ k, n = k + 1 := ⟨n - 1, by omega⟩
  have hc := MaySig_cl (n := n) s hf (by omega) S0
  have hall : maySig s = true → L.length = s.t.length → cl n f_scarfref15_sum [.sl s.tu s.t.length (tcells s.t), .sl u L.length (cellsL L)] S0 = some (i64 (ptL s.t L 1), S0) := fun h e =>
    sum_of s.tu u s.t L (by omega) hL (by omega) (fun t ht v hv' => RParts_cl 21 t v (n - 1) S0 (maySig_all hf h t ht) (hv v hv') (hvf v hv') (by omega)) S0
  have hp := pure_sv s u L.length (cellsL L)
  unfold argsI
  generalize maySig s = b at *
  obtain ⟨nm0, pu, p, tu, t, r⟩ := s
  obtain ⟨K, un, nm, ul, l, R⟩ := r
  refine cl_of (by kernel_rfl) hp (Ret.eq (vc_scarfref15_Args n nm0 pu _ _ tu _ _ K un _ _ ul _ _ R u _ _ _ ⟨_, hc, ?_⟩)) rfl
  cases b with
  | false => exact ⟨rfl, rfl⟩
  | true =>
    refine br_false (br_ndec (fun c => ⟨?_, rfl⟩) fun c => ⟨_, hall rfl (by omega), br_dec (fun c2 => ⟨?_, rfl⟩) fun c2 => ⟨?_, rfl⟩⟩)
    · rw [if_pos rfl, if_neg (fun h => c (by rw [h]))]
    · rw [if_pos rfl, if_pos (by simp only at c ⊢; omega), if_pos c2]
    · rw [if_pos rfl, if_pos (by simp only at c ⊢; omega), if_neg c2]

/-! ### the law -/
theorem ValueArgs_lp (n : Nat) (nm0 : ByteArray) (pu : Bool) (p : List ByteArray) (tu : Bool) (t : List Tt) (K : Int) (un : Bool) (nm : List ByteArray) (ul : Bool) (l : List Tt) (R : Int) (u : Bool) (L : List Vl)
    (hf : Sg.fits ⟨nm0, pu, p, tu, t, .mk K un nm ul l R⟩) (hL : L.length ≤ 100) (hvf : ∀ v ∈ L, v.fits) (hn : Sg.sz ⟨nm0, pu, p, tu, t, .mk K un nm ul l R⟩ + 26000 ≤ n) :
    ∀ (r : List Vl) (i m : Nat), L.drop i = r → i ≤ L.length → r.length < m → (∀ j v, j < i → L[j]? = some v → light v = true) →
      L_scarflaw15_ValueArgs_0 n m nm0 pu p.length (p.map str) tu t.length (tcells t) K un nm.length (nm.map str) ul l.length (tcells l) R u L.length (cellsL L) (i : Int) fun p T => p = bl true ∧ T = S0
  | [], i, m, hd, hle, hm, hlt => by
    obtain ⟨m, rfl⟩ : ∃ k, m = k + 1 := ⟨m - 1, by omega⟩
    have := drop_len hd
    simp only [List.length_nil] at this
    have hok : ∀ v ∈ L, okV v 21 := fun v hv => by
      obtain ⟨j, hj, e⟩ := List.mem_iff_getElem.1 hv
      exact light_ok (hlt j v (by omega) (by rw [List.getElem?_eq_getElem hj, e]))
    exact lp_scarflaw15_ValueArgs_0 n m _ _ _ _ _ _ _ _ _ _ _ _ _ _ _ _ _ _ _ _ (br_dec (fun h => absurd h (by omega)) fun _ =>
      ⟨_, Args_cl ⟨nm0, pu, p, tu, t, .mk K un nm ul l R⟩ u L hf (by omega) hok hn S0, _, RArgs_cl ⟨nm0, pu, p, tu, t, .mk K un nm ul l R⟩ u L hf (by omega) hok hvf hn S0,
        br_dec (fun _ => ⟨_, awake_cl (by omega) _, rfl, rfl⟩) fun h => absurd rfl h⟩)
  | v :: r, i, m, hd, hle, hm, hlt => by
    obtain ⟨m, rfl⟩ : ∃ k, m = k + 1 := ⟨m - 1, by omega⟩
    obtain ⟨g1, g2, g3⟩ := drop_get hd
    have hv := ld_V g1
    have hi := idx_ok g3 (cellsL_length L) (k := 3) (by omega)
    have hli := Light_cl (n := n) v (by omega) S0
    have e1 : IntKind.i64.wrap ((i : Int) + 1) = ((i + 1 : Nat) : Int) := by rw [wrap64 (by omega)]; simp
    have go := fun h => ValueArgs_lp n nm0 pu p tu t K un nm ul l R u L hf hL hvf hn r (i + 1) m g2 g3 (by simp at hm; omega) h
    refine lp_scarflaw15_ValueArgs_0 n m _ _ _ _ _ _ _ _ _ _ _ _ _ _ _ _ _ _ _ _ (br_dec (fun _ => ?_) fun h => absurd (by omega) h)
    rw [e1]
    have step : light v = true → ∀ j w, j < i + 1 → L[j]? = some w → light w = true := fun hl j w hj hw => by
      by_cases e : j = i
      · subst e; rw [g1] at hw; obtain rfl := Option.some.inj hw; exact hl
      · exact hlt j w (by omega) hw
    generalize light v = b at *
    have aw := awake_cl (n := n) (by omega) S0
    obtain ⟨N', us', S', ul', L'⟩ := v
    refine ⟨hi, _, _, _, _, _, _, _, hv, _, hli, br_intro (fun c => ⟨_, aw, rfl, rfl⟩) fun c => go (step (by simpa using c))⟩

theorem ValueArgs_run (s : Sg) (u : Bool) (L : List Vl) (hf : s.fits) (hvf : ∀ v ∈ L, v.fits) : ∃ n, run cfg n f_scarflaw15_ValueArgs [.agg s.cells, .sl u L.length (cellsL L)] S0 = some (bl true, S0) := by
  obtain ⟨nm0, pu, p, tu, t, r⟩ := s
  obtain ⟨K, un, nm, ul, l, R⟩ := r
  refine ⟨Sg.sz ⟨nm0, pu, p, tu, t, .mk K un nm ul l R⟩ + 26000 + 1, Ret.eq ?_⟩
  refine vc_scarflaw15_ValueArgs _ nm0 pu _ _ tu _ _ K un _ _ ul _ _ R u _ _ _ (br_dec (fun _ => ⟨_, awake_cl (by omega) _, rfl, rfl⟩) fun c => ?_)
  exact ValueArgs_lp _ nm0 pu p tu t K un nm ul l R u L hf (by omega) hvf (Nat.le_refl _) L 0 _ rfl (by omega) (by omega) (by intro j v h; omega)
end Go.Proofs.YtmjnfdjhaopeiaaGreatDoor
