/-
  A part of the proof: Z32, Z33.
-/
import Derived.Test.YtmjnfdjhaopeiaaGreatDoorZJ
namespace Go.Proofs.YtmjnfdjhaopeiaaGreatDoor
open Go Go.Pvm
set_option maxRecDepth 100000

theorem pure_tvn (t : Tt) (v : Vl) (u : Bool) (ns : List Int) : pureL? [.agg t.cells, .agg v.cells, .sl u ns.length (ns.map i64)] = true := by simp [pureL?, pure?, pure_tcells, pure_cells]

theorem with_cl : ∀ (d : Nat) (t : Tt) (v : Vl) (n : Nat), OkT t → okV v d → ptT t v ≠ 0 → 25000 + 2 * d ≤ n → ∀ u ns S, (hs t v).length ≤ ns.length → (∀ z ∈ ns, 0 ≤ z ∧ z < 4294967296) → WN f_value_with n t v u ns S := by
  intro d
  induction d with
  | zero => intro t v n _ hv; exact (ok_zero hv).elim
  | succ d ih =>
    intro t v n ht hv hp hn u ns S hl hr
    obtain ⟨n, rfl⟩ : ∃ k, n = k + 1 := ⟨n - 1, by omega⟩
    have hpu := pure_tvn t v u ns
    have fin : Ret cfg (n + 1) f_value_with [.agg t.cells, .agg v.cells, .sl u ns.length (ns.map i64)] S0 (fun p T => ∃ (w : Vl) (u' : Bool), er w = (wT t v ns).1 ∧ frz T 9 p = some (.tup [.agg w.cells, .sl u' (wT t v ns).2.length ((wT t v ns).2.map i64)])) → WN f_value_with (n + 1) t v u ns S := by
      rintro ⟨p, T, hr, w, u', hw, hf⟩
      exact ⟨w, u', hw, cl_frz (by kernel_rfl) hpu hr hf⟩
    apply fin
    clear fin
    obtain ⟨N, us, Sv, vl, L⟩ := v
    have hS : Sv.length ≤ 20000 := hv.1
    obtain ⟨hL, hw⟩ := ok_items hv
    have hin : ∀ (i : Nat) (x : Tt), i < L.length → (insL t N L.length)[i]? = some x → ¬ (t.K = 20 ∨ t.K = 21) → insB t N L.length = true → ∀ S, cl n f_value_inner [.agg t.cells, .agg (Vl.mk N us Sv vl L).cells, i64 (i : Int)] S = some (.agg x.cells, S) :=
      fun i x hi hx hk hB S => inner_cl t (.mk N us Sv vl L) ht (by omega) hi hk hB hx S
    have hts : ∀ x ∈ insL t N L.length, OkT x := fun x hx => insL_ok ht hx
    have hh : ∀ x ∈ insL t N L.length, ∀ w ∈ L, ptT x w ≠ 0 → ∀ u ns S, (hs x w).length ≤ ns.length → (∀ z ∈ ns, 0 ≤ z ∧ z < 4294967296) → WN f_value_with n x w u ns S := fun x hx w hw' h u ns S => ih x w n (insL_ok ht hx) (hw w hw') h (by omega) u ns S
    have hcase := pt_cases ht hp
    have hclone := CloneI_cl (n := n) (by omega) us Sv (by omega) S0
    by_cases hk : t.K = 20 ∨ t.K = 21
    · rw [hs_leaf hk] at hl
      rw [wT_leaf hk]
      cases ns with
      | nil => simp at hl
      | cons z ns =>
        have e1 : List.take ((z :: ns).length - 1) (List.map i64 ns) = ns.map i64 := List.take_of_length_le (by simp)
        have hx : ld prog t_int ((z :: ns).map i64) 0 (i64 z) := ld_map (f := fun z : Int => i64 z) (i := 0) (by kernel_rfl) rfl
        have leaf : ∃ (v1 : Int), ld prog t_int ((z :: ns).map i64) 0 (i64 v1) ∧ ((0 : Int) ≤ 1 ∧ (z :: ns).length = (z :: ns).length ∧ (z :: ns).length = (z :: ns).length ∧ 1 ≤ (z :: ns).length ∧ (z :: ns).length ≤ (z :: ns).length ∧ (z :: ns).length ≤ (z :: ns).length ∧ (z :: ns).length * 1 = ((z :: ns).map i64).length) ∧
            ∃ (w : Vl) (u' : Bool), er w = (Vl.mk ((z :: ns).headD 0) true [] true [], (z :: ns).tail).1 ∧ frz S0 9 (.tup [.agg [i64 v1, .sl true 0 [], .sl true 0 []], .sl (u && ((z :: ns).length == (z :: ns).length)) ((z :: ns).length - 1) ((List.drop (1 * 1) ((z :: ns).map i64)).take (((z :: ns).length - 1) * 1))]) =
              some (.tup [.agg w.cells, .sl u' (Vl.mk ((z :: ns).headD 0) true [] true [], (z :: ns).tail).2.length ((Vl.mk ((z :: ns).headD 0) true [] true [], (z :: ns).tail).2.map i64)]) := by
          refine ⟨z, hx, ⟨by decide, rfl, rfl, by simp, Nat.le_refl _, Nat.le_refl _, by simp⟩, .mk z true [] true [], (u && ((z :: ns).length == (z :: ns).length)), by unfold er erL; rfl, ?_⟩
          show frz S0 9 (.tup [_, .sl _ _ (List.take (((z :: ns).length - 1) * 1) (List.map i64 ns))]) = some (.tup [_, .sl _ _ (ns.map i64)])
          rw [Nat.mul_one, e1]; rfl
        have hi0 : ((0 : Int) ≤ 0 ∧ (0 : Int) < (((z :: ns).length : Nat) : Int) ∧ Int.toNat 0 * 1 < ((z :: ns).map i64).length) := ⟨by decide, by simp, by simp⟩
        obtain ⟨K, un, nm, ul, l, R⟩ := t
        simp only [Tt.K] at hk
        exact vc_value_with n K un _ _ ul _ _ R N us _ _ vl _ _ u _ _ _ (br_dec (fun _ => ⟨hi0, leaf⟩) fun k20 => br_dec (fun _ => ⟨hi0, leaf⟩) fun k21 => absurd hk (by omega))
    · rw [hs_node hk] at hl
      rw [wT_node hk]
      generalize hI : insL t N L.length = I at *
      obtain ⟨K, un, nm, ul, l, R⟩ := t
      simp only [Tt.K] at hk hin hcase
      refine vc_value_with n K un _ _ ul _ _ R N us _ _ vl _ _ u _ _ _ (br_dec (fun k => absurd (.inl k) hk) fun k20 => br_dec (fun k => absurd (.inr k) hk) fun k21 => ⟨_, _, _, hclone, ?_⟩)
      obtain ⟨m, rfl⟩ : ∃ k, n = k + 1 := ⟨n - 1, by omega⟩
      cases L with
      | nil =>
        rw [wL_nil]
        exact lp_value_with_0 _ m K un _ _ ul _ _ R N us _ _ vl _ _ u _ _ _ _ _ _ (br_dec (fun c => absurd c (by simp)) fun c => ⟨.mk N false Sv true [], u, by unfold er erL; rfl, rfl⟩)
      | cons v0 r =>
        rcases hcase with h | ⟨_, hB, e1, e2⟩
        · cases h
        · rw [e1] at hp
          cases I with
          | nil => exact (ptL_empty hp).elim
          | cons x q =>
            obtain ⟨p1, p2⟩ := ptL_step hp
            rw [hsL_cons, List.length_append] at hl
            have ok := wT_ok v0 x ns (hts x (by simp)) p1 (by omega) hr
            have hr' : ∀ z ∈ (wT x v0 ns).2, 0 ≤ z ∧ z < 4294967296 := fun z hz => hr z (by rw [ok.1] at hz; exact List.mem_of_mem_drop hz)
            have hl' : (hsL q r).length ≤ (wT x v0 ns).2.length := by rw [ok.1, List.length_drop]; omega
            obtain ⟨w, u1, hw1, hc⟩ := hh x (by simp) v0 (by simp) p1 u ns ⟨[(0, ⟨0, 1, [i64 N, .sl false Sv.length (Sv.map i64), .sl true 0 []]⟩)], 1⟩ (by omega) hr
            have hin0 := hin 0 x (by simp) rfl hk hB ⟨[(0, ⟨0, 1, [i64 N, .sl false Sv.length (Sv.map i64), .sl true 0 []]⟩)], 1⟩
            have hv0 := ld_V (l := v0 :: r) (i := 0) rfl
            have hi0 := idx_ok (n := (v0 :: r).length) (i := 0) (by simp) (cellsL_length (v0 :: r)) (k := 3) (by omega)
            have ih' := with_lp1 (m + 1) K un nm ul l R N us Sv vl (v0 :: r) (x :: q) hL hts (fun p T => ∃ (w : Vl) (u' : Bool), er w = (Vl.mk N true Sv true (wL (x :: q) (v0 :: r) ns).1, (wL (x :: q) (v0 :: r) ns).2).1 ∧ frz T 9 p = some (.tup [.agg w.cells, .sl u' (Vl.mk N true Sv true (wL (x :: q) (v0 :: r) ns).1, (wL (x :: q) (v0 :: r) ns).2).2.length ((Vl.mk N true Sv true (wL (x :: q) (v0 :: r) ns).1, (wL (x :: q) (v0 :: r) ns).2).2.map i64)]))
              false Sv.length (Sv.map i64) (fun i y hi hy => hin i y hi hy hk hB) hh r q 1 m 0 [w] _ u1 (wT x v0 ns).2 rfl rfl (by simp at hL; omega) p2 rfl hl' hr' (fun ver u' B hB => by
                refine ⟨.mk N false Sv false ([w] ++ B), u', ?_, ?_⟩
                · show er (.mk N false Sv false (w :: B)) = _
                  unfold er erL
                  rw [hw1, hB, wL_cons]
                · rw [wL_cons]
                  exact frz_w (bx := ⟨ver, 3, cellsL ([w] ++ B)⟩) ([w] ++ B) rfl rfl rfl rfl N false _ _ u' _ _)
            have cw := vcell_oneC w
            rw [cellsL_one] at ih'
            clear hh hin ok hr' hl' ih hw hts hp e1 e2 p2
            generalize (wT x v0 ns).2 = ns' at *
            refine lp_value_with_0 _ m K un _ _ ul _ _ R N us _ _ vl _ _ u _ _ _ _ _ _ (br_dec (fun c => ?_) fun c => absurd (by simp) c)
            obtain ⟨N', us', S', ul', L'⟩ := v0
            obtain ⟨K', un', nm', ul2, l', R'⟩ := x
            obtain ⟨Nw, usw, Sw, ulw, Lw⟩ := w
            exact ⟨hi0, _, _, _, _, _, _, _, hv0, _, _, _, _, _, _, _, _, hin0, _, _, _, _, _, _, _, _, _, _, hc, ⟨rfl, cw, rfl, rfl, rfl, by decide, by decide, .inl rfl⟩, ih'⟩
end Go.Proofs.YtmjnfdjhaopeiaaGreatDoor

namespace Go.Proofs.YtmjnfdjhaopeiaaGreatDoor
open Go Go.Pvm
set_option maxRecDepth 100000

theorem RWith_lp1 (n : Nat) (N : Int) (us : Bool) (Sv : List Int) (vl : Bool) (L : List Vl) (tu : Bool) (ts : List Tt) (hL : L.length ≤ 20000) (hts : ∀ t ∈ ts, OkT t) (Q : PV → Store → Prop)
    (hh : ∀ x ∈ ts, ∀ w ∈ L, ptT x w ≠ 0 → ∀ u ns S, (hs x w).length ≤ ns.length → (∀ z ∈ ns, 0 ≤ z ∧ z < 4294967296) → WN f_scarfref15_With n x w u ns S) :
    ∀ (r : List Vl) (q : List Tt) (i m ver : Nat) (A : List Vl) (acc : Int) (u : Bool) (ns : List Int), L.drop i = r → ts.drop i = q → r.length < m → ptL q r acc ≠ 0 → A.length = i → (hsL q r).length ≤ ns.length → (∀ z ∈ ns, 0 ≤ z ∧ z < 4294967296) →
      (∀ ver u' B, erL B = (wL q r ns).1 → Q (.tup [.agg [i64 N, .sl us Sv.length (Sv.map i64), .bsl 0 ver 0 (A ++ B).length], .sl u' (wL q r ns).2.length ((wL q r ns).2.map i64)]) ⟨[(0, ⟨ver, 3, cellsL (A ++ B)⟩)], 1⟩) →
      L_scarfref15_With_1 n m N us Sv.length (Sv.map i64) vl L.length (cellsL L) u ns.length (ns.map i64) tu ts.length (tcells ts) (i : Int) ver A.length (cellsL A) Q
  | [], q, i, m, ver, A, acc, u, ns, hd, hq, hm, hp, hA, hl, hr, hQ => by
    obtain ⟨m, rfl⟩ : ∃ k, m = k + 1 := ⟨m - 1, by omega⟩
    have := drop_len hd
    simp only [List.length_nil] at this
    rw [wL_nil] at hQ
    have hQ' := hQ ver u [] (by unfold erL; rfl)
    rw [List.append_nil] at hQ'
    exact lp_scarfref15_With_1 n m N us _ _ vl _ _ u _ _ tu _ _ _ ver _ _ Q (br_dec (fun h => absurd h (by omega)) fun _ => hQ')
  | v :: r, [], i, m, ver, A, acc, u, ns, hd, hq, hm, hp, hA, hl, hr, hQ => (ptL_empty hp).elim
  | v :: r, t :: q, i, m, ver, A, acc, u, ns, hd, hq, hm, hp, hA, hl, hr, hQ => by
    obtain ⟨m, rfl⟩ : ∃ k, m = k + 1 := ⟨m - 1, by omega⟩
    obtain ⟨g1, g2, g3⟩ := drop_get hd
    obtain ⟨k1, k2, k3⟩ := drop_get hq
    obtain ⟨p1, p2⟩ := ptL_step hp
    have hv := ld_V g1
    have ht := ld_T k1
    have hi := idx_ok g3 (cellsL_length L) (k := 3) (by omega)
    have hj := idx_ok k3 (tcells_length ts) (k := 4) (by omega)
    rw [hsL_cons, List.length_append] at hl
    have ok := wT_ok v t ns (hts t (List.mem_of_getElem? k1)) p1 (by omega) hr
    have hr' : ∀ z ∈ (wT t v ns).2, 0 ≤ z ∧ z < 4294967296 := fun z hz => hr z (by rw [ok.1] at hz; exact List.mem_of_mem_drop hz)
    have hl' : (hsL q r).length ≤ (wT t v ns).2.length := by rw [ok.1, List.length_drop]; omega
    obtain ⟨w, u1, hw, hc⟩ := hh t (List.mem_of_getElem? k1) v (List.mem_of_getElem? g1) p1 u ns ⟨[(0, ⟨ver, 3, cellsL A⟩)], 1⟩ (by omega) hr
    rw [wL_cons] at hQ
    have ih := RWith_lp1 n N us Sv vl L tu ts hL hts Q hh r q (i + 1) m (ver + 1) (A ++ [w]) (acc + ptT t v) u1 (wT t v ns).2 g2 k2 (by simp at hm; omega) p2 (by simp [hA]) hl' hr' (fun ver u' B hB => by
      have := hQ ver u' (w :: B) (by unfold erL; rw [hw, hB])
      rw [List.append_assoc]
      exact this)
    have e1 : IntKind.i64.wrap ((i : Int) + 1) = ((i + 1 : Nat) : Int) := by rw [wrap64 (by omega)]; simp
    have t1 : List.take (A.length * 3) (cellsL A) = cellsL A := List.take_of_length_le (by rw [cellsL_length]; omega)
    rw [← e1, cellsL_append, cellsL_one, List.length_append] at ih
    have cw := vcell_oneC w
    have cA := vcells_oneC A
    have lA : A.length * 3 ≤ (cellsL A).length := by rw [cellsL_length]; omega
    have bA : (A.length + 1) * 56 ≤ 140737488355328 ∧ A.length + 1 ≤ 140737488355328 := by omega
    refine lp_scarfref15_With_1 n m N us _ _ vl _ _ u _ _ tu _ _ _ ver _ _ Q (br_dec (fun _ => br_dec (fun _ => ?_) fun h => absurd (by omega) h) fun h => absurd (by omega) h)
    rw [t1]
    clear hQ hh ok hr' hl'
    generalize (wT t v ns).2 = ns' at *
    obtain ⟨N', us', S', ul', L'⟩ := v
    obtain ⟨K', un', nm', ul2, l', R'⟩ := t
    obtain ⟨Nw, usw, Sw, ulw, Lw⟩ := w
    exact ⟨hj, _, _, _, _, _, _, _, _, ht, hi, _, _, _, _, _, _, _, hv, _, _, _, _, _, _, _, _, _, _, hc, ⟨rfl, cw, rfl, rfl, rfl, lA, cA, bA.1, bA.2⟩, ih⟩

theorem RWith_cl : ∀ (d : Nat) (t : Tt) (v : Vl) (n : Nat), OkT t → okV v d → ptT t v ≠ 0 → 25000 + 2 * d ≤ n → ∀ u ns S, (hs t v).length ≤ ns.length → (∀ z ∈ ns, 0 ≤ z ∧ z < 4294967296) → WN f_scarfref15_With n t v u ns S := by
  intro d
  induction d with
  | zero => intro t v n _ hv; exact (ok_zero hv).elim
  | succ d ih =>
    intro t v n ht hv hp hn u ns S hl hr
    obtain ⟨n, rfl⟩ : ∃ k, n = k + 1 := ⟨n - 1, by omega⟩
    have hpu := pure_tvn t v u ns
    have hown := ht.own
    have fin : Ret cfg (n + 1) f_scarfref15_With [.agg t.cells, .agg v.cells, .sl u ns.length (ns.map i64)] S0 (fun p T => ∃ (w : Vl) (u' : Bool), er w = (wT t v ns).1 ∧ frz T 9 p = some (.tup [.agg w.cells, .sl u' (wT t v ns).2.length ((wT t v ns).2.map i64)])) → WN f_scarfref15_With (n + 1) t v u ns S := by
      rintro ⟨p, T, hr, w, u', hw, hf⟩
      exact ⟨w, u', hw, cl_frz (by kernel_rfl) hpu hr hf⟩
    apply fin
    clear fin
    obtain ⟨N, us, Sv, vl, L⟩ := v
    obtain ⟨hL, hw⟩ := ok_items hv
    obtain ⟨ui, hins⟩ := Inside_cl (n := n) t (.mk N us Sv vl L) ht hL (by omega) S0
    simp only [Vl.N, Vl.L] at hins
    have hts : ∀ x ∈ insL t N L.length, OkT x := fun x hx => insL_ok ht hx
    have hh : ∀ x ∈ insL t N L.length, ∀ w ∈ L, ptT x w ≠ 0 → ∀ u ns S, (hs x w).length ≤ ns.length → (∀ z ∈ ns, 0 ≤ z ∧ z < 4294967296) → WN f_scarfref15_With n x w u ns S := fun x hx w hw' h u ns S => ih x w n (insL_ok ht hx) (hw w hw') h (by omega) u ns S
    have hcase := pt_cases ht hp
    by_cases hk : t.K = 20 ∨ t.K = 21
    · rw [hs_leaf hk] at hl
      rw [wT_leaf hk]
      cases ns with
      | nil => simp at hl
      | cons z ns =>
        have e1 : List.take ((z :: ns).length - 1) (List.map i64 ns) = ns.map i64 := List.take_of_length_le (by simp)
        have hx : ld prog t_int ((z :: ns).map i64) 0 (i64 z) := ld_map (f := fun z : Int => i64 z) (i := 0) (by kernel_rfl) rfl
        have leaf : ∃ (v1 : Int), ld prog t_int ((z :: ns).map i64) 0 (i64 v1) ∧ ((0 : Int) ≤ 1 ∧ (z :: ns).length = (z :: ns).length ∧ (z :: ns).length = (z :: ns).length ∧ 1 ≤ (z :: ns).length ∧ (z :: ns).length ≤ (z :: ns).length ∧ (z :: ns).length ≤ (z :: ns).length ∧ (z :: ns).length * 1 = ((z :: ns).map i64).length) ∧
            ∃ (w : Vl) (u' : Bool), er w = (Vl.mk ((z :: ns).headD 0) true [] true [], (z :: ns).tail).1 ∧ frz S0 9 (.tup [.agg [i64 v1, .sl true 0 [], .sl true 0 []], .sl (u && ((z :: ns).length == (z :: ns).length)) ((z :: ns).length - 1) ((List.drop (1 * 1) ((z :: ns).map i64)).take (((z :: ns).length - 1) * 1))]) =
              some (.tup [.agg w.cells, .sl u' (Vl.mk ((z :: ns).headD 0) true [] true [], (z :: ns).tail).2.length ((Vl.mk ((z :: ns).headD 0) true [] true [], (z :: ns).tail).2.map i64)]) := by
          refine ⟨z, hx, ⟨by decide, rfl, rfl, by simp, Nat.le_refl _, Nat.le_refl _, by simp⟩, .mk z true [] true [], (u && ((z :: ns).length == (z :: ns).length)), by unfold er erL; rfl, ?_⟩
          show frz S0 9 (.tup [_, .sl _ _ (List.take (((z :: ns).length - 1) * 1) (List.map i64 ns))]) = some (.tup [_, .sl _ _ (ns.map i64)])
          rw [Nat.mul_one, e1]; rfl
        have hi0 : ((0 : Int) ≤ 0 ∧ (0 : Int) < (((z :: ns).length : Nat) : Int) ∧ Int.toNat 0 * 1 < ((z :: ns).map i64).length) := ⟨by decide, by simp, by simp⟩
        obtain ⟨K, un, nm, ul, l, R⟩ := t
        simp only [Tt.K] at hk
        exact vc_scarfref15_With n K un _ _ ul _ _ R N us _ _ vl _ _ u _ _ _ (br_dec (fun _ => ⟨hi0, leaf⟩) fun k20 => absurd (by omega) k20)
    · rw [hs_node hk] at hl
      rw [wT_node hk]
      generalize hI : insL t N L.length = I at *
      obtain ⟨K, un, nm, ul, l, R⟩ := t
      simp only [Tt.K, Tt.nm, Tt.l, Tt.R] at hk hcase hown
      refine vc_scarfref15_With n K un _ _ ul _ _ R N us _ _ vl _ _ u _ _ _ (br_dec (fun k => absurd (by unfold OwnP at hown; omega) hk) fun k20 => ⟨_, _, _, _, hins, ?_⟩)
      obtain ⟨m, rfl⟩ : ∃ k, n = k + 1 := ⟨n - 1, by omega⟩
      cases L with
      | nil =>
        rw [wL_nil]
        exact lp_scarfref15_With_0 _ m N us _ _ vl _ _ u _ _ _ _ _ _ (br_dec (fun c => absurd c (by simp)) fun c => ⟨.mk N us Sv true [], u, by unfold er erL; rfl, rfl⟩)
      | cons v0 r =>
        rcases hcase with h | ⟨_, hB, e1, e2⟩
        · cases h
        · rw [e1] at hp
          cases I with
          | nil => exact (ptL_empty hp).elim
          | cons x q =>
            obtain ⟨p1, p2⟩ := ptL_step hp
            rw [hsL_cons, List.length_append] at hl
            have ok := wT_ok v0 x ns (hts x (by simp)) p1 (by omega) hr
            have hr' : ∀ z ∈ (wT x v0 ns).2, 0 ≤ z ∧ z < 4294967296 := fun z hz => hr z (by rw [ok.1] at hz; exact List.mem_of_mem_drop hz)
            have hl' : (hsL q r).length ≤ (wT x v0 ns).2.length := by rw [ok.1, List.length_drop]; omega
            obtain ⟨w, u1, hw1, hc⟩ := hh x (by simp) v0 (by simp) p1 u ns S0 (by omega) hr
            have hv0 := ld_V (l := v0 :: r) (i := 0) rfl
            have hx0 := ld_T (l := x :: q) (i := 0) rfl
            have hi0 := idx_ok (n := (v0 :: r).length) (i := 0) (by simp) (cellsL_length (v0 :: r)) (k := 3) (by omega)
            have hj0 := idx_ok (n := (x :: q).length) (i := 0) (by simp) (tcells_length (x :: q)) (k := 4) (by omega)
            have ih' := RWith_lp1 (m + 1) N us Sv vl (v0 :: r) ui (x :: q) hL hts (fun p T => ∃ (w : Vl) (u' : Bool), er w = (Vl.mk N true Sv true (wL (x :: q) (v0 :: r) ns).1, (wL (x :: q) (v0 :: r) ns).2).1 ∧ frz T 9 p = some (.tup [.agg w.cells, .sl u' (Vl.mk N true Sv true (wL (x :: q) (v0 :: r) ns).1, (wL (x :: q) (v0 :: r) ns).2).2.length ((Vl.mk N true Sv true (wL (x :: q) (v0 :: r) ns).1, (wL (x :: q) (v0 :: r) ns).2).2.map i64)]))
              hh r q 1 m 0 [w] _ u1 (wT x v0 ns).2 rfl rfl (by simp at hL; omega) p2 rfl hl' hr' (fun ver u' B hB => by
                refine ⟨.mk N us Sv false ([w] ++ B), u', ?_, ?_⟩
                · show er (.mk N us Sv false (w :: B)) = _
                  unfold er erL
                  rw [hw1, hB, wL_cons]
                · rw [wL_cons]
                  exact frz_w (bx := ⟨ver, 3, cellsL ([w] ++ B)⟩) ([w] ++ B) rfl rfl rfl rfl N us _ _ u' _ _)
            have cw := vcell_oneC w
            rw [cellsL_one] at ih'
            clear hh ok hr' hl' ih hw hts hp e1 e2 p2
            generalize (wT x v0 ns).2 = ns' at *
            refine lp_scarfref15_With_0 _ m N us _ _ vl _ _ u _ _ _ _ _ _ (br_dec (fun c => br_dec (fun c' => ?_) fun c' => absurd (by simp) c') fun c => absurd (by simp) c)
            obtain ⟨N', us', S', ul', L'⟩ := v0
            obtain ⟨K', un', nm', ul2, l', R'⟩ := x
            obtain ⟨Nw, usw, Sw, ulw, Lw⟩ := w
            exact ⟨hj0, _, _, _, _, _, _, _, _, hx0, hi0, _, _, _, _, _, _, _, hv0, _, _, _, _, _, _, _, _, _, _, hc, ⟨rfl, cw, rfl, rfl, rfl, by decide, by decide, .inl rfl⟩, ih'⟩
end Go.Proofs.YtmjnfdjhaopeiaaGreatDoor
