/-
  A part of the proof: Z28.
-/
import Derived.Test.YtmjnfdjhaopeiaaGreatDoorZI
namespace Go.Proofs.YtmjnfdjhaopeiaaGreatDoor
open Go Go.Pvm
set_option maxRecDepth 100000

theorem RCheck_cl {n : Nat} (t : Tt) (v : Vl) (hf : t.fits) (hv : okV v 21) (hvf : v.fits) (hn : t.sz + 26000 ≤ n) (S : Store) : cl n f_scarfref15_Check [.agg t.cells, .agg v.cells] S = some (i64 (chk t v), S) := by
  obtain ⟨n, rfl⟩ : ∃ k, n = k + 1 := ⟨n - 1, by omega⟩
  have hpu := pure_tv t v
  have h1 := May_cl (n := n) t hf (by omega) S0
  have h2 : mayT t = true → cl n f_scarfref15_Parts [.agg t.cells, .agg v.cells] S0 = some (i64 (ptT t v), S0) := fun h => RParts_cl 21 t v n S0 (mayT_ok hf h) hv hvf (by omega)
  unfold chk
  generalize mayT t = M at *
  generalize ptT t v = pt at *
  obtain ⟨K, un, nm, ul, l, R⟩ := t
  obtain ⟨N, us, Sv, vl, L⟩ := v
  refine cl_of (by kernel_rfl) hpu (Ret.eq (vc_scarfref15_Check n K un _ _ ul _ _ R N us _ _ vl _ _ _ ⟨_, h1, ?_⟩)) rfl
  cases M with
  | false => exact ⟨rfl, rfl⟩
  | true =>
    refine ⟨_, h2 rfl, br_dec (fun z => ?_) fun z => ?_⟩
    · rw [if_pos rfl, if_pos z]; exact ⟨rfl, rfl⟩
    · rw [if_pos rfl, if_neg z]; exact ⟨rfl, rfl⟩

theorem VHandles_cl {n : Nat} (t : Tt) (v : Vl) (hf : t.fits) (hv : okV v 21) (hn : t.sz + 26001 ≤ n) (S : Store) :
    (chk t v ≠ 0 → cl n f_value_Handles [.agg t.cells, .agg v.cells] S = some (.tup [.sl true 0 [], .sl true 0 []], S)) ∧ (chk t v = 0 → TN f_value_Handles n t v S) := by
  obtain ⟨n, rfl⟩ : ∃ k, n = k + 1 := ⟨n - 1, by omega⟩
  have hpu := pure_tv t v
  have h1 := VCheck_cl (n := n) t v hf hv (by omega) S0
  have h2 : chk t v = 0 → TN f_value_handles n t v S0 := fun h => by
    unfold chk at h
    by_cases hm : mayT t = true
    · rw [if_pos hm] at h
      refine handles_cl 21 t v n (mayT_ok hf hm) hv (fun h0 => ?_) (by omega) S0
      rw [if_pos h0] at h; omega
    · rw [if_neg hm] at h; omega
  unfold TN at *
  generalize chk t v = c at *
  generalize hs t v = H at *
  obtain ⟨K, un, nm, ul, l, R⟩ := t
  obtain ⟨N, us, Sv, vl, L⟩ := v
  constructor
  · intro hc
    exact cl_of (by kernel_rfl) hpu (Ret.eq (vc_value_Handles n K un _ _ ul _ _ R N us _ _ vl _ _ _ ⟨_, h1, br_ndec (fun _ => ⟨rfl, rfl⟩) fun h => absurd h hc⟩)) rfl
  · intro hc
    obtain ⟨u1, u2, h⟩ := h2 hc
    exact ⟨u1, u2, cl_of (by kernel_rfl) hpu (Ret.eq (vc_value_Handles n K un _ _ ul _ _ R N us _ _ vl _ _ _ ⟨_, h1, br_ndec (fun h => absurd hc h) fun _ => ⟨_, _, _, _, _, _, h, rfl, rfl⟩⟩)) rfl⟩

/-- A row of numbers is itself. -/
theorem LSame_lp (n : Nat) (u u' : Bool) (l : List Int) (hl : l.length ≤ 140737488355328) (Q : PV → Store → Prop) (hQ : Q (bl true) S0) : ∀ (r : List Int) (i m : Nat), l.drop i = r → r.length < m →
    L_scarfref01_Same_0 n m u l.length (l.map i64) u' l.length (l.map i64) (i : Int) Q
  | [], i, m, hd, hm => by
    obtain ⟨m, rfl⟩ : ∃ k, m = k + 1 := ⟨m - 1, by omega⟩
    have := drop_len hd
    simp only [List.length_nil] at this
    exact lp_scarfref01_Same_0 n m u _ _ u' _ _ _ Q (br_dec (fun h => absurd h (by omega)) fun _ => hQ)
  | x :: r, i, m, hd, hm => by
    obtain ⟨m, rfl⟩ : ∃ k, m = k + 1 := ⟨m - 1, by omega⟩
    obtain ⟨g1, g2, g3⟩ := drop_get hd
    have hi := idx_ok g3 (len := (l.map i64).length) (k := 1) (by simp) (by omega)
    have hx : ld prog t_int (l.map i64) (Int.toNat (i : Int) * 1) (i64 x) := by
      rw [Int.toNat_natCast]; exact ld_map (f := fun z : Int => i64 z) (by kernel_rfl) g1
    have e1 : IntKind.i64.wrap ((i : Int) + 1) = ((i + 1 : Nat) : Int) := by rw [wrap64 (by omega)]; simp
    have ih := LSame_lp n u u' l hl Q hQ r (i + 1) m g2 (by simp at hm; omega)
    rw [← e1] at ih
    exact lp_scarfref01_Same_0 n m u _ _ u' _ _ _ Q (br_dec (fun _ => ⟨hi, _, hx, hi, _, hx, br_ndec (fun h => absurd rfl h) fun _ => ih⟩) fun h => absurd (by omega) h)

theorem LSame_cl {n : Nat} (u u' : Bool) (l : List Int) (hl : l.length ≤ 140737488355328) (hn : l.length + 2 ≤ n) (S : Store) : cl n f_scarfref01_Same [.sl u l.length (l.map i64), .sl u' l.length (l.map i64)] S = some (bl true, S) := by
  obtain ⟨n, rfl⟩ : ∃ k, n = k + 1 := ⟨n - 1, by omega⟩
  exact cl_of (by kernel_rfl) rfl (Ret.eq (vc_scarfref01_Same n u _ _ u' _ _ _ (br_ndec (fun h => absurd rfl h) fun _ => LSame_lp n u u' l hl _ ⟨rfl, rfl⟩ l 0 n rfl (by omega)))) rfl
theorem aN_map (h : List (Tt × Int)) : aN h = (h.map (·.2)).map i64 := by simp [aN]

theorem ld_R {l : List Tt} {i : Nat} {x : Tt} (h : l[i]? = some x) : ld prog t_int (tcells l) (Int.toNat (i : Int) * 4 + 3) (i64 x.R) := by
  refine ld_one agg_int ?_
  have h4 : ((tcells l).drop (i * 4)).take 4 = x.cells := by rw [tcells_cat]; exact cat_at tcell_len h
  have h5 : (((tcells l).drop (i * 4)).take 4)[3]? = some (i64 x.R) := by rw [h4]; obtain ⟨K', un', nm', ul', l', R'⟩ := x; rfl
  rw [List.getElem?_take_of_lt (by omega), List.getElem?_drop] at h5
  rw [Int.toNat_natCast]; exact h5

/-! ### the law -/
theorem ValueHandles_lp (n : Nat) (u1 u2 u3 u4 : Bool) (H : List (Tt × Int)) (hH : H.length ≤ 4000) (hn : 26000 ≤ n) (Q : PV → Store → Prop) (hQ : Q (bl true) S0) : ∀ (r : List (Tt × Int)) (i m : Nat), H.drop i = r → r.length < m →
    L_scarflaw15_ValueHandles_0 n m u1 H.length (aT H) u2 H.length (aN H) u3 H.length (aT H) u4 H.length (aN H) (i : Int) Q
  | [], i, m, hd, hm => by
    obtain ⟨m, rfl⟩ : ∃ k, m = k + 1 := ⟨m - 1, by omega⟩
    have := drop_len hd
    simp only [List.length_nil] at this
    have hs := LSame_cl (n := n) u2 u4 (H.map (·.2)) (by simp; omega) (by simp; omega) S0
    rw [← aN_map, List.length_map] at hs
    exact lp_scarflaw15_ValueHandles_0 n m u1 _ _ u2 _ _ u3 _ _ u4 _ _ _ Q (br_dec (fun h => absurd h (by omega)) fun _ => ⟨_, hs, _, awake_cl (by omega) _, hQ⟩)
  | x :: r, i, m, hd, hm => by
    obtain ⟨m, rfl⟩ : ∃ k, m = k + 1 := ⟨m - 1, by omega⟩
    obtain ⟨g1, g2, g3⟩ := drop_get hd
    have hi := idx_ok g3 (aT_len H) (k := 4) (by omega)
    have g1' : (H.map (·.1))[i]? = some x.1 := by rw [List.getElem?_map, g1]; rfl
    have hK : ld prog t_int (aT H) (Int.toNat (i : Int) * 4 + 0) (i64 x.1.K) := ld_K g1'
    have hR : ld prog t_int (aT H) (Int.toNat (i : Int) * 4 + 3) (i64 x.1.R) := ld_R g1'
    have e1 : IntKind.i64.wrap ((i : Int) + 1) = ((i + 1 : Nat) : Int) := by rw [wrap64 (by omega)]; simp
    have ih := ValueHandles_lp n u1 u2 u3 u4 H hH hn Q hQ r (i + 1) m g2 (by simp at hm; omega)
    rw [← e1] at ih
    exact lp_scarflaw15_ValueHandles_0 n m u1 _ _ u2 _ _ u3 _ _ u4 _ _ _ Q (br_dec (fun _ => ⟨hi, _, hK, hi, _, hK, br_ndec (fun h => absurd rfl h) fun _ => ⟨hi, _, hR, hi, _, hR, br_ndec (fun h => absurd rfl h) fun _ => ih⟩⟩) fun h => absurd (by omega) h)

theorem ValueHandles_run (t : Tt) (v : Vl) (hf : t.fits) (hvf : v.fits) : ∃ n, run cfg n f_scarflaw15_ValueHandles [.agg t.cells, .agg v.cells] S0 = some (bl true, S0) := by
  refine ⟨t.sz + 30000 + 1, Ret.eq ?_⟩
  have hl := Light_cl (n := t.sz + 30000) v (by omega) S0
  have ha := awake_cl (n := t.sz + 30000) (by omega) S0
  have hc : light v = true → _ := fun h => RCheck_cl (n := t.sz + 30000) t v hf (light_ok h) hvf (by omega) S0
  have hV : light v = true → _ := fun h => VHandles_cl (n := t.sz + 30000) t v hf (light_ok h) (by omega) S0
  have hR : light v = true → chk t v = 0 → TN f_scarfref15_Handles (t.sz + 30000) t v S0 := fun hli h => by
    unfold chk at h
    by_cases hm : mayT t = true
    · rw [if_pos hm] at h
      refine RHandles_cl 21 t v _ (mayT_ok hf hm) (light_ok hli) (fun h0 => ?_) (by omega) S0
      rw [if_pos h0] at h; omega
    · rw [if_neg hm] at h; omega
  have hH : chk t v = 0 → (hs t v).length ≤ 4000 := fun h => by
    unfold chk at h
    by_cases hm : mayT t = true
    · rw [if_pos hm] at h
      have h1 := hs_len v t (mayT_ok hf hm) (fun h0 => by rw [if_pos h0] at h; omega)
      have h2 := (ptT_le v t).2
      omega
    · rw [if_neg hm] at h; omega
  have hn : 26000 ≤ t.sz + 30000 := by omega
  unfold TN at *
  generalize t.sz + 30000 = n at *
  generalize chk t v = c at *
  generalize hs t v = H at *
  generalize light v = li at *
  clear hf hvf
  obtain ⟨K, un, nm, ul, l, R⟩ := t
  obtain ⟨N, us, Sv, vl, L⟩ := v
  refine vc_scarflaw15_ValueHandles n K un _ _ ul _ _ R N us _ _ vl _ _ _ ⟨_, hl, ?_⟩
  cases li with
  | false => exact ⟨_, ha, rfl, rfl⟩
  | true =>
    have hc := hc rfl
    obtain ⟨hV1, hV2⟩ := hV rfl
    by_cases h0 : c = 0
    · obtain ⟨u1, u2, hV2⟩ := hV2 h0
      obtain ⟨u3, u4, hR⟩ := hR rfl h0
      exact ⟨_, _, _, _, _, _, hV2, _, hc, br_ndec (fun h => absurd h0 h) fun _ => ⟨_, _, _, _, _, _, hR, br_ndec (fun h => absurd rfl h) fun _ => ValueHandles_lp n u1 u2 u3 u4 H (hH h0) hn _ ⟨rfl, rfl⟩ H 0 n rfl (by have := hH h0; omega)⟩⟩
    · exact ⟨_, _, _, _, _, _, hV1 h0, _, hc, br_ndec (fun _ => br_dec (fun _ => br_dec (fun _ => ⟨_, ha, rfl, rfl⟩) fun h => absurd rfl h) fun h => absurd rfl h) fun h => absurd h h0⟩
end Go.Proofs.YtmjnfdjhaopeiaaGreatDoor
