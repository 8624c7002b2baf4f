/-
  A part of the proof: Z30, Z31.
-/
import Derived.Test.YtmjnfdjhaopeiaaGreatDoorZ28
namespace Go.Proofs.YtmjnfdjhaopeiaaGreatDoor
open Go Go.Pvm
set_option maxRecDepth 100000

/-! ### values but for how their slices lie -/
mutual
def er : Vl → Vl
  | .mk N _ S _ L => .mk N true S true (erL L)
def erL : List Vl → List Vl
  | [] => []
  | v :: r => er v :: erL r
end
theorem erL_len : ∀ l : List Vl, (erL l).length = l.length
  | [] => by unfold erL; rfl
  | v :: r => by unfold erL; simp [erL_len r]
mutual
theorem ptT_er : ∀ (v : Vl) (t : Tt), ptT t (er v) = ptT t v
  | .mk N us S vl L, t => by
    have h := ptL_er L
    unfold er ptT
    simp only [erL_len, h]
theorem ptL_er : ∀ (vs : List Vl) (ts : List Tt) (n : Int), ptL ts (erL vs) n = ptL ts vs n
  | [], ts, n => by unfold erL; rfl
  | v :: vs, [], n => by
    unfold erL ptL; rfl
  | v :: vs, t :: ts, n => by
    unfold erL
    rw [ptL_cons, ptL_cons, ptT_er v t, ptL_er vs ts]
end
mutual
theorem hs_er : ∀ (v : Vl) (t : Tt), hs t (er v) = hs t v
  | .mk N us S vl L, t => by
    have h := hsL_er L
    unfold er hs
    simp only [erL_len, h]
theorem hsL_er : ∀ (vs : List Vl) (ts : List Tt), hsL ts (erL vs) = hsL ts vs
  | [], ts => by unfold erL; rfl
  | v :: vs, [] => by unfold erL hsL; rfl
  | v :: vs, t :: ts => by
    unfold erL
    rw [hsL_cons, hsL_cons, hs_er v t, hsL_er vs ts]
end
mutual
theorem okV_er : ∀ (v : Vl) (d : Nat), okV (er v) d → okV v d
  | .mk N us S vl L, d, h => by
    unfold er okV at h
    rw [erL_len] at h
    unfold okV
    exact ⟨h.1, h.2.1, h.2.2.1, okL_er L _ h.2.2.2⟩
theorem okL_er : ∀ (vs : List Vl) (d : Nat), okL (erL vs) d → okL vs d
  | [], d, _ => by unfold okL; trivial
  | v :: r, d, h => by
    unfold erL okL at h
    unfold okL
    exact ⟨okV_er v d h.1, okL_er r d h.2⟩
end

/-! ### a value with other numbers for its handles -/
mutual
def wT (t : Tt) : Vl → List Int → Vl × List Int
  | .mk N _ S _ L, ns => if t.K = 20 ∨ t.K = 21 then (.mk (ns.headD 0) true [] true [], ns.tail) else (.mk N true S true (wL (insL t N L.length) L ns).1, (wL (insL t N L.length) L ns).2)
def wL (ts : List Tt) : List Vl → List Int → List Vl × List Int
  | [], ns => ([], ns)
  | v :: vs, ns => match ts with
    | [] => ([], ns)
    | t :: ts' => ((wT t v ns).1 :: (wL ts' vs (wT t v ns).2).1, (wL ts' vs (wT t v ns).2).2)
end
theorem wL_nil (ts : List Tt) (ns : List Int) : wL ts [] ns = ([], ns) := by unfold wL; rfl
theorem wL_cons (t : Tt) (ts : List Tt) (v : Vl) (vs : List Vl) (ns : List Int) : wL (t :: ts) (v :: vs) ns = ((wT t v ns).1 :: (wL ts vs (wT t v ns).2).1, (wL ts vs (wT t v ns).2).2) := by
  conv => lhs; unfold wL
theorem wT_leaf {t : Tt} (h : t.K = 20 ∨ t.K = 21) (N : Int) (us : Bool) (S : List Int) (vl : Bool) (L : List Vl) (ns : List Int) : wT t (.mk N us S vl L) ns = (.mk (ns.headD 0) true [] true [], ns.tail) := by
  conv => lhs; unfold wT; rw [if_pos h]
theorem wT_node {t : Tt} (h : ¬ (t.K = 20 ∨ t.K = 21)) (N : Int) (us : Bool) (S : List Int) (vl : Bool) (L : List Vl) (ns : List Int) : wT t (.mk N us S vl L) ns = (.mk N true S true (wL (insL t N L.length) L ns).1, (wL (insL t N L.length) L ns).2) := by
  conv => lhs; unfold wT; rw [if_neg h]
theorem hs_leaf {t : Tt} (h : t.K = 20 ∨ t.K = 21) (N : Int) (us : Bool) (S : List Int) (vl : Bool) (L : List Vl) : hs t (.mk N us S vl L) = [(t, N)] := by
  conv => lhs; unfold hs; rw [if_pos h]
theorem hs_node {t : Tt} (h : ¬ (t.K = 20 ∨ t.K = 21)) (N : Int) (us : Bool) (S : List Int) (vl : Bool) (L : List Vl) : hs t (.mk N us S vl L) = hsL (insL t N L.length) L := by
  conv => lhs; unfold hs; rw [if_neg h]

theorem pt_none {t : Tt} {N : Int} {us : Bool} {S : List Int} {vl : Bool} {L : List Vl} (hL : L ≠ []) (h : ptT t (.mk N us S vl L) ≠ 0) : leafP t.K t.nm.length N S L.length = none ∧ S.length = 0 := by
  cases hlf : leafP t.K t.nm.length N S L.length with
  | some k =>
    have e : ptT t (.mk N us S vl L) = k := by
      conv => lhs; unfold ptT
      rw [hlf]
    exact absurd (List.length_eq_zero_iff.1 (leafP_L hlf (by rw [← e]; exact h))) hL
  | none =>
    refine ⟨rfl, ?_⟩
    rcases Nat.eq_zero_or_pos S.length with h0 | h0
    · exact h0
    · refine absurd ?_ h
      conv => lhs; unfold ptT
      rw [hlf]
      exact if_pos (by omega)

theorem rng_hand {K : Int} (h : K = 20 ∨ K = 21) : rng K = some (0, 4294967295) := by
  rcases h with rfl | rfl <;> rfl
theorem pt_hand {t : Tt} (h : t.K = 20 ∨ t.K = 21) (N : Int) (us : Bool) (S : List Int) (vl : Bool) (L : List Vl) : ptT t (.mk N us S vl L) = if 0 ≤ N ∧ N ≤ 4294967295 ∧ S.length = 0 ∧ L.length = 0 then 1 else 0 := by
  conv => lhs; unfold ptT leafP
  rw [rng_hand h]

theorem drop_drop' {α : Type} (l : List α) (a b : Nat) : (l.drop a).drop b = l.drop (a + b) := by rw [List.drop_drop]

mutual
theorem wT_ok : ∀ (v : Vl) (t : Tt) (ns : List Int), OkT t → ptT t v ≠ 0 → (hs t v).length ≤ ns.length → (∀ z ∈ ns, 0 ≤ z ∧ z < 4294967296) →
    (wT t v ns).2 = ns.drop (hs t v).length ∧ ptT t (wT t v ns).1 = ptT t v ∧ (hs t (wT t v ns).1).map (·.2) = ns.take (hs t v).length ∧ ∀ d, okV v d → okV (wT t v ns).1 d
  | .mk N us S vl L, t, ns, ht, hp, hl, hr => by
    by_cases hk : t.K = 20 ∨ t.K = 21
    · rw [hs_leaf hk] at hl ⊢
      rw [wT_leaf hk]
      cases ns with
      | nil => simp at hl
      | cons z ns =>
        have hz := hr z (by simp)
        refine ⟨by simp, ?_, ?_, fun d h => ?_⟩
        · rw [pt_hand hk] at hp ⊢
          rw [pt_hand hk]
          split at hp
          · rename_i c; rw [if_pos c, if_pos ⟨hz.1, by show z ≤ _; omega, rfl, rfl⟩]
          · exact absurd rfl hp
        · rw [hs_leaf hk]; simp
        · have h1 : 1 ≤ d := by unfold okV at h; exact h.2.2.1
          unfold okV okL
          exact ⟨Nat.zero_le _, Nat.zero_le _, h1, trivial⟩
    · rw [hs_node hk] at hl ⊢
      rw [wT_node hk]
      rcases pt_cases ht hp with rfl | ⟨_, hB, e1, e2⟩
      · rw [wL_nil, hsL_nil]
        have e : (Vl.mk N true S true []) = er (.mk N us S vl []) := by unfold er erL; rfl
        refine ⟨by simp, by rw [e, ptT_er], ?_, fun d h => ?_⟩
        · rw [hs_node hk, hsL_nil]; simp
        · unfold okV at h ⊢; exact h
      · rw [e1] at hp
        obtain ⟨f1, f2, f3, f4, f5⟩ := wL_ok L (insL t N L.length) ns 1 (fun x hx => insL_ok ht hx) hp hl hr
        refine ⟨f1, ?_, ?_, fun d h => ?_⟩
        · by_cases hL : L = []
          · subst hL
            have e : (Vl.mk N true S true (wL (insL t N ([] : List Vl).length) [] ns).1) = er (.mk N us S vl []) := by rw [wL_nil]; unfold er erL; rfl
            rw [e, ptT_er]
          · obtain ⟨g1, g2⟩ := pt_none (us := us) (vl := vl) (t := t) (N := N) (S := S) hL (by rw [e1]; exact hp)
            rw [e1]
            obtain ⟨k1, _⟩ := pt_ins0 (us := true) (vl := true) (L := (wL (insL t N L.length) L ns).1) ht (by rw [f2]; exact g1) g2
            rw [k1, f2, if_pos hB, f3]
        · rw [hs_node hk, f2]; exact f4
        · unfold okV at h ⊢
          refine ⟨h.1, by rw [f2]; exact h.2.1, h.2.2.1, f5 _ h.2.2.2⟩
theorem wL_ok : ∀ (vs : List Vl) (ts : List Tt) (ns : List Int) (n : Int), (∀ t ∈ ts, OkT t) → ptL ts vs n ≠ 0 → (hsL ts vs).length ≤ ns.length → (∀ z ∈ ns, 0 ≤ z ∧ z < 4294967296) →
    (wL ts vs ns).2 = ns.drop (hsL ts vs).length ∧ (wL ts vs ns).1.length = vs.length ∧ ptL ts (wL ts vs ns).1 n = ptL ts vs n ∧ (hsL ts (wL ts vs ns).1).map (·.2) = ns.take (hsL ts vs).length ∧ ∀ d, okL vs d → okL (wL ts vs ns).1 d
  | [], ts, ns, n, ht, hp, hl, hr => by
    rw [wL_nil, hsL_nil]
    exact ⟨by simp, rfl, rfl, by simp, fun d h => h⟩
  | v :: vs, [], ns, n, ht, hp, hl, hr => (ptL_empty hp).elim
  | v :: vs, t :: ts, ns, n, ht, hp, hl, hr => by
    obtain ⟨p1, p2⟩ := ptL_step hp
    rw [hsL_cons, List.length_append] at hl
    obtain ⟨a1, a2, a3, a4⟩ := wT_ok v t ns (ht t (by simp)) p1 (by omega) hr
    have hr' : ∀ z ∈ (wT t v ns).2, 0 ≤ z ∧ z < 4294967296 := fun z hz => hr z (by rw [a1] at hz; exact List.mem_of_mem_drop hz)
    obtain ⟨b1, b2, b3, b4, b5⟩ := wL_ok vs ts (wT t v ns).2 (n + ptT t v) (fun x hx => ht x (by simp [hx])) p2 (by rw [a1, List.length_drop]; omega) hr'
    rw [wL_cons, hsL_cons, List.length_append]
    refine ⟨?_, by simp [b2], ?_, ?_, fun d h => ?_⟩
    · show (wL ts vs (wT t v ns).2).2 = _
      rw [b1, a1, List.drop_drop]
    · show ptL (t :: ts) ((wT t v ns).1 :: (wL ts vs (wT t v ns).2).1) n = _
      rw [ptL_cons, ptL_cons, a2, b3]
    · show List.map _ (hsL (t :: ts) ((wT t v ns).1 :: (wL ts vs (wT t v ns).2).1)) = _
      rw [hsL_cons, List.map_append, a3, b4, a1, List.take_add]
    · unfold okL at h ⊢
      exact ⟨a4 d h.1, b5 d h.2⟩
end
end Go.Proofs.YtmjnfdjhaopeiaaGreatDoor

namespace Go.Proofs.YtmjnfdjhaopeiaaGreatDoor
open Go Go.Pvm
set_option maxRecDepth 100000

theorem CloneI_cl {n : Nat} (h : 1 ≤ n) (u : Bool) (l : List Int) (hl : l.length ≤ 1000000) (S : Store) : cl n f_slices_Clone_sl_int_int [.sl u l.length (l.map i64)] S = some (.sl false l.length (l.map i64), S) := by
  obtain ⟨n, rfl⟩ : ∃ k, n = k + 1 := ⟨n - 1, by omega⟩
  refine cl_of (by kernel_rfl) rfl ?_ rfl
  show cloneI 1 [.sl u l.length (l.map i64)] S0 = _
  unfold cloneI
  simp only
  rw [if_pos ⟨by simp, by simp [oneC, Value.oneCell'], hl⟩]

/-- What both sides hand back: the value but for how its slices lie, and the numbers that are left. -/
def WN (g : FuncId) (n : Nat) (t : Tt) (v : Vl) (u : Bool) (ns : List Int) (S : Store) : Prop :=
  ∃ (w : Vl) (u' : Bool), er w = (wT t v ns).1 ∧ cl n g [.agg t.cells, .agg v.cells, .sl u ns.length (ns.map i64)] S = some (.tup [.agg w.cells, .sl u' (wT t v ns).2.length ((wT t v ns).2.map i64)], S)

theorem vcells_solid : ∀ l : List Vl, (cellsL l).all solid = true
  | [] => rfl
  | ⟨N, us, S, ul, L⟩ :: r => by simp [cellsL, Vl.cells, solid, vcells_solid r]
theorem vcells_oneC : ∀ l : List Vl, (cellsL l).all oneC = true
  | [] => rfl
  | ⟨N, us, S, ul, L⟩ :: r => by simp [cellsL, Vl.cells, oneC, Value.oneCell', vcells_oneC r]
theorem vcell_oneC (v : Vl) : v.cells.all oneC = true := by
  obtain ⟨N, us, S, ul, L⟩ := v
  simp [Vl.cells, oneC, Value.oneCell']
theorem cellsL_one (v : Vl) : cellsL [v] = v.cells := by simp [cellsL]

/-- Out of boxes. -/
theorem frz_w {S : Store} {b ver : Nat} {bx : Box} (B : List Vl) (hb : S.get b = some bx) (hv : bx.ver = ver) (hc : bx.cs = cellsL B) (he : bx.esz = 3) (N : Int) (us : Bool) (ns : Nat) (cs : List PV) (u : Bool) (k : Nat) (c : List PV) :
    frz S 9 (.tup [.agg [i64 N, .sl us ns cs, .bsl b ver 0 B.length], .sl u k c]) = some (.tup [.agg [i64 N, .sl us ns cs, .sl false B.length (cellsL B)], .sl u k c]) := by
  have h : ∀ j, frz S (j + 2) (.bsl b ver 0 B.length) = some (.sl false B.length (cellsL B)) := fun j =>
    frz_bsl hb hv (by rw [hc, he]; exact List.take_of_length_le (by rw [cellsL_length]; omega)) (by rw [hc, he, cellsL_length]; omega) (vcells_solid _)
  have h1 : frz S 8 (.agg [i64 N, .sl us ns cs, .bsl b ver 0 B.length]) = some (.agg [i64 N, .sl us ns cs, .sl false B.length (cellsL B)]) := by
    show Option.map PV.agg (List.mapM (frz S 7) _) = _
    simp only [List.mapM_cons, List.mapM_nil, h 5]
    rfl
  show Option.map PV.tup (List.mapM (frz _ 8) _) = _
  simp only [List.mapM_cons, List.mapM_nil, h1]
  rfl

theorem wL_len {ts : List Tt} {vs : List Vl} {ns : List Int} {acc : Int} (hts : ∀ t ∈ ts, OkT t) (hp : ptL ts vs acc ≠ 0) (hl : (hsL ts vs).length ≤ ns.length) (hr : ∀ z ∈ ns, 0 ≤ z ∧ z < 4294967296) : (wL ts vs ns).1.length = vs.length :=
  (wL_ok vs ts ns acc hts hp hl hr).2.1

theorem with_lp1 (n : Nat) (K : Int) (un : Bool) (nm : List ByteArray) (ul : Bool) (l : List Tt) (R N : Int) (us : Bool) (Sv : List Int) (vl : Bool) (L : List Vl) (ts : List Tt) (hL : L.length ≤ 20000) (hts : ∀ t ∈ ts, OkT t) (Q : PV → Store → Prop)
    (su : Bool) (sn : Nat) (sc : List PV)
    (hin : ∀ (i : Nat) (x : Tt), i < L.length → ts[i]? = some x → ∀ S, cl n f_value_inner [.agg (Tt.mk K un nm ul l R).cells, .agg (Vl.mk N us Sv vl L).cells, i64 (i : Int)] S = some (.agg x.cells, S))
    (hh : ∀ x ∈ ts, ∀ w ∈ L, ptT x w ≠ 0 → ∀ u ns S, (hs x w).length ≤ ns.length → (∀ z ∈ ns, 0 ≤ z ∧ z < 4294967296) → WN f_value_with n x w u ns S) :
    ∀ (r : List Vl) (q : List Tt) (i m ver : Nat) (A : List Vl) (acc : Int) (u : Bool) (ns : List Int), L.drop i = r → ts.drop i = q → r.length < m → ptL q r acc ≠ 0 → A.length = i → (hsL q r).length ≤ ns.length → (∀ z ∈ ns, 0 ≤ z ∧ z < 4294967296) →
      (∀ ver u' B, erL B = (wL q r ns).1 → Q (.tup [.agg [i64 N, .sl su sn sc, .bsl 1 ver 0 (A ++ B).length], .sl u' (wL q r ns).2.length ((wL q r ns).2.map i64)]) ⟨[(1, ⟨ver, 3, cellsL (A ++ B)⟩), (0, ⟨0, 1, [i64 N, .sl su sn sc, .bsl 1 ver 0 (A ++ B).length]⟩)], 2⟩) →
      L_value_with_1 n m K un nm.length (nm.map str) ul l.length (tcells l) R N us Sv.length (Sv.map i64) vl L.length (cellsL L) u ns.length (ns.map i64) (i : Int) (cellsL A) ver su sn sc A.length Q
  | [], q, i, m, ver, A, acc, u, ns, hd, hq, hm, hp, hA, hl, hr, hQ => by
    obtain ⟨m, rfl⟩ : ∃ k, m = k + 1 := ⟨m - 1, by omega⟩
    have := drop_len hd
    simp only [List.length_nil] at this
    rw [wL_nil] at hQ
    have hQ' := hQ ver u [] (by unfold erL; rfl)
    rw [List.append_nil] at hQ'
    exact lp_value_with_1 n m K un _ _ ul _ _ R N us _ _ vl _ _ u _ _ _ _ ver _ _ _ _ Q (br_dec (fun h => absurd h (by omega)) fun _ => hQ')
  | v :: r, [], i, m, ver, A, acc, u, ns, hd, hq, hm, hp, hA, hl, hr, hQ => (ptL_empty hp).elim
  | v :: r, t :: q, i, m, ver, A, acc, u, ns, hd, hq, hm, hp, hA, hl, hr, hQ => by
    obtain ⟨m, rfl⟩ : ∃ k, m = k + 1 := ⟨m - 1, by omega⟩
    obtain ⟨g1, g2, g3⟩ := drop_get hd
    obtain ⟨k1, k2, k3⟩ := drop_get hq
    obtain ⟨p1, p2⟩ := ptL_step hp
    have hv := ld_V g1
    have hi := idx_ok g3 (cellsL_length L) (k := 3) (by omega)
    rw [hsL_cons, List.length_append] at hl
    have ok := wT_ok v t ns (hts t (List.mem_of_getElem? k1)) p1 (by omega) hr
    have hr' : ∀ z ∈ (wT t v ns).2, 0 ≤ z ∧ z < 4294967296 := fun z hz => hr z (by rw [ok.1] at hz; exact List.mem_of_mem_drop hz)
    have hl' : (hsL q r).length ≤ (wT t v ns).2.length := by rw [ok.1, List.length_drop]; omega
    have hin' := hin i t g3 k1 ⟨[(1, ⟨ver, 3, cellsL A⟩), (0, ⟨0, 1, [i64 N, .sl su sn sc, .bsl 1 ver 0 A.length]⟩)], 2⟩
    obtain ⟨w, u1, hw, hc⟩ := hh t (List.mem_of_getElem? k1) v (List.mem_of_getElem? g1) p1 u ns ⟨[(1, ⟨ver, 3, cellsL A⟩), (0, ⟨0, 1, [i64 N, .sl su sn sc, .bsl 1 ver 0 A.length]⟩)], 2⟩ (by omega) hr
    rw [wL_cons] at hQ
    have ih := with_lp1 n K un nm ul l R N us Sv vl L ts hL hts Q su sn sc hin hh r q (i + 1) m (ver + 1) (A ++ [w]) (acc + ptT t v) u1 (wT t v ns).2 g2 k2 (by simp at hm; omega) p2 (by simp [hA]) hl' hr' (fun ver u' B hB => by
      have := hQ ver u' (w :: B) (by unfold erL; rw [hw, hB])
      rw [List.append_assoc]
      exact this)
    have e1 : IntKind.i64.wrap ((i : Int) + 1) = ((i + 1 : Nat) : Int) := by rw [wrap64 (by omega)]; simp
    have t1 : List.take (A.length * 3) (cellsL A) = cellsL A := List.take_of_length_le (by rw [cellsL_length]; omega)
    rw [← e1, cellsL_append, cellsL_one, List.length_append] at ih
    have cw := vcell_oneC w
    have cA := vcells_oneC A
    have lA : A.length * 3 ≤ (cellsL A).length := by rw [cellsL_length]; omega
    have bA : (A.length + 1) * 56 ≤ 140737488355328 ∧ A.length + 1 ≤ 140737488355328 := by omega
    refine lp_value_with_1 n m K un _ _ ul _ _ R N us _ _ vl _ _ u _ _ _ _ ver _ _ _ _ Q (br_dec (fun _ => ?_) fun h => absurd (by omega) h)
    rw [t1]
    clear hQ hh hin ok hr' hl'
    generalize (wT t v ns).2 = ns' at *
    obtain ⟨N', us', S', ul', L'⟩ := v
    obtain ⟨K', un', nm', ul2, l', R'⟩ := t
    obtain ⟨Nw, usw, Sw, ulw, Lw⟩ := w
    exact ⟨hi, _, _, _, _, _, _, _, hv, _, _, _, _, _, _, _, _, hin', _, _, _, _, _, _, _, _, _, _, hc, ⟨rfl, cw, rfl, rfl, rfl, lA, cA, bA.1, bA.2⟩, ih⟩
end Go.Proofs.YtmjnfdjhaopeiaaGreatDoor
