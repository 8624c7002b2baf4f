/-
  A part of the proof: Z14, Z15.
-/
import Derived.Test.YtmjnfdjhaopeiaaGreatDoorZD
namespace Go.Proofs.YtmjnfdjhaopeiaaGreatDoor
open Go Go.Pvm
set_option maxRecDepth 100000

theorem ld_V {l : List Vl} {i : Nat} {v : Vl} (h : l[i]? = some v) : ld prog t_api_Val (cellsL l) (Int.toNat (i : Int) * 3) (.agg v.cells) := by
  rw [cellsL_cat, Int.toNat_natCast]; exact ld_cat cells_len agg_Val size_Val h
theorem cellsL_length (l : List Vl) : (cellsL l).length = l.length * 3 := by rw [cellsL_cat, cat_len cells_len]

mutual
def _root_.Go.Pvm.Vl.fits : Vl → Prop
  | .mk N _ _ _ l => (-9223372036854775808 ≤ N ∧ N ≤ 9223372036854775807) ∧ vfits l
def _root_.Go.Pvm.vfits : List Vl → Prop
  | [] => True
  | v :: r => v.fits ∧ vfits r
end

/-- What a value without items comes to. -/
def leafP (K : Int) (nm : Nat) (N : Int) (S : List Int) (L : Nat) : Option Int :=
  match rng K with
  | some (lo, hi) => some (if lo ≤ N ∧ N ≤ hi ∧ S.length = 0 ∧ L = 0 then 1 else 0)
  | none => if K = 10 then some (if scalar N = true ∧ S.length = 0 ∧ L = 0 then 1 else 0)
    else if K = 11 then some (if N = 0 ∧ L = 0 ∧ S.length ≤ 1000 ∧ (S.any fun p => !scalar p) = false then 1 + S.length else 0)
    else if K = 19 then some (if 0 ≤ N ∧ N < 2 ^ nm ∧ S.length = 0 ∧ L = 0 then 1 else 0)
    else none

mutual
def ptT (t : Tt) : Vl → Int
  | .mk N _ S _ L => match leafP t.K t.nm.length N S L.length with
    | some k => k
    | none => if S.length ≠ 0 then 0 else
      if t.K = 12 then (if N = 0 ∧ L.length ≤ 1000 then ptL (List.replicate L.length (t.l.headD zeroT)) L 1 else 0)
      else if t.K = 13 ∨ t.K = 14 then (if N = 0 ∧ L.length = t.l.length then ptL t.l L 1 else 0)
      else match (if 0 ≤ N then (pl t)[N.toNat]? else none) with
        | none => 0
        | some x => if x.K = 0 then (if L.length = 0 then 1 else 0) else if L.length = 1 then ptL [x] L 1 else 0
def ptL (ts : List Tt) : List Vl → Int → Int
  | [], n => n
  | v :: vs, n => match ts with
    | [] => 0
    | t :: ts => if ptT t v = 0 ∨ 4000 < n + ptT t v then 0 else ptL ts vs (n + ptT t v)
end

theorem ptL_nil (ts : List Tt) (n : Int) : ptL ts [] n = n := by unfold ptL; rfl
theorem ptL_cons (t : Tt) (ts : List Tt) (v : Vl) (vs : List Vl) (n : Int) : ptL (t :: ts) (v :: vs) n = if ptT t v = 0 ∨ 4000 < n + ptT t v then 0 else ptL ts vs (n + ptT t v) := by
  conv => lhs; unfold ptL

theorem leafP_le {K : Int} {nm : Nat} {N : Int} {S : List Int} {L : Nat} {k : Int} (h : leafP K nm N S L = some k) : 0 ≤ k ∧ k ≤ 4000 := by
  unfold leafP at h
  split at h
  · obtain rfl := Option.some.inj h
    split <;> omega
  · split at h
    · obtain rfl := Option.some.inj h
      split <;> omega
    · split at h
      · obtain rfl := Option.some.inj h
        split <;> omega
      · split at h
        · obtain rfl := Option.some.inj h
          split <;> omega
        · cases h

mutual
theorem ptT_le : ∀ (v : Vl) (t : Tt), 0 ≤ ptT t v ∧ ptT t v ≤ 4000
  | .mk N us S ul L, t => by
    have hL := fun ts => ptL_le L ts 1 (by omega) (by omega)
    unfold ptT
    split
    · rename_i k hk; exact leafP_le hk
    · split
      · omega
      · split
        · split
          · exact hL _
          · omega
        · split
          · split
            · exact hL _
            · omega
          · split
            · omega
            · split
              · split <;> omega
              · split
                · exact hL _
                · omega
theorem ptL_le : ∀ (vs : List Vl) (ts : List Tt) (n : Int), 0 ≤ n → n ≤ 4000 → 0 ≤ ptL ts vs n ∧ ptL ts vs n ≤ 4000
  | [], ts, n, h0, h1 => by unfold ptL; omega
  | v :: vs, ts, n, h0, h1 => by
    unfold ptL
    split
    · omega
    · rename_i t ts
      have := ptT_le v t
      split
      · omega
      · exact ptL_le vs ts _ (by omega) (by omega)
end

/-! ### types that values may have -/
def OkT (t : Tt) : Prop := t.fits ∧ ∃ d, 0 ≤ d ∧ deepT t d = true

theorem OkT.own {t : Tt} (h : OkT t) : OwnP t.K (distB t.nm 64).toNat t.nm.length t.l.length t.R := by
  obtain ⟨_, d, _, h⟩ := h
  obtain ⟨K, un, nm, ul, l, R⟩ := t
  simp only [deepT] at h
  split at h
  · cases h
  · split at h
    · rename_i h2; exact h2
    · cases h

theorem deepL_mem {K d : Int} : ∀ {l : List Tt} {x : Tt}, deepL K l d = true → x ∈ l → ((K = 15 ∨ K = 18) ∧ noneT x = true) ∨ deepT x (d + 1) = true
  | [], x, _, h => by cases h
  | y :: r, x, hd, h => by
    simp only [deepL] at hd
    split at hd
    · rename_i hy
      rcases List.mem_cons.1 h with rfl | h
      · exact .inl hy
      · exact deepL_mem hd h
    · split at hd
      · rename_i hy
        rcases List.mem_cons.1 h with rfl | h
        · exact .inr hy
        · exact deepL_mem hd h
      · cases hd

theorem OkT.mem {t x : Tt} (h : OkT t) (hx : x ∈ t.l) : ((t.K = 15 ∨ t.K = 18) ∧ noneT x = true) ∨ OkT x := by
  obtain ⟨hf, d, h0, h⟩ := h
  obtain ⟨K, un, nm, ul, l, R⟩ := t
  simp only [deepT] at h
  split at h
  · cases h
  · split at h
    · rcases deepL_mem h hx with h1 | h1
      · exact .inl h1
      · exact .inr ⟨tfits_mem hf.2.2 hx, d + 1, by omega, h1⟩
    · cases h

theorem OkT.lens {t : Tt} (h : OkT t) : t.nm.length ≤ 64 ∧ t.l.length ≤ 64 := by have := h.own; unfold OwnP at this; omega

theorem pl_ok {t x : Tt} {i : Nat} (h : OkT t) (hx : (pl t)[i]? = some x) : x.K = 0 ∨ OkT x := by
  unfold pl at hx
  split at hx
  · left
    rw [List.getElem?_replicate] at hx
    split at hx
    · obtain rfl := Option.some.inj hx; rfl
    · cases hx
  · split at hx
    · cases i with
      | zero => left; simp at hx; subst hx; rfl
      | succ i =>
        simp only [List.getElem?_cons_succ] at hx
        rcases h.mem (List.mem_of_getElem? hx) with h1 | h1
        · exact .inl (noneT_K h1.2)
        · exact .inr h1
    · rcases h.mem (List.mem_of_getElem? hx) with h1 | h1
      · exact .inl (noneT_K h1.2)
      · exact .inr h1

theorem leafP_none {K : Int} {nm : Nat} {N : Int} {S : List Int} {L : Nat} (h : leafP K nm N S L = none) : rng K = none ∧ K ≠ 10 ∧ K ≠ 11 ∧ K ≠ 19 := by
  unfold leafP at h
  split at h
  · cases h
  · rename_i h0
    split at h
    · cases h
    · split at h
      · cases h
      · split at h
        · cases h
        · exact ⟨h0, by assumption, by assumption, by assumption⟩

theorem rng_none {K : Int} (h : rng K = none) : ¬ (1 ≤ K ∧ K ≤ 9) ∧ K ≠ 20 ∧ K ≠ 21 := by
  unfold rng at h
  repeat' split at h
  all_goals first | (cases h; done) | omega

theorem ld_K {l : List Tt} {i : Nat} {x : Tt} (h : l[i]? = some x) : ld prog t_int (tcells l) (Int.toNat (i : Int) * 4 + 0) (i64 x.K) := by
  refine ld_one agg_int ?_
  have h4 : ((tcells l).drop (i * 4)).take 4 = x.cells := by rw [tcells_cat]; exact cat_at tcell_len h
  have h5 : (((tcells l).drop (i * 4)).take 4)[0]? = some (i64 x.K) := by rw [h4]; obtain ⟨K', un', nm', ul', l', R'⟩ := x; rfl
  rw [List.getElem?_take_of_lt (by omega), List.getElem?_drop] at h5
  rw [Int.toNat_natCast]; exact h5
end Go.Proofs.YtmjnfdjhaopeiaaGreatDoor

namespace Go.Proofs.YtmjnfdjhaopeiaaGreatDoor
open Go Go.Pvm
set_option maxRecDepth 100000

theorem pow_le64 {k : Nat} (h : k ≤ 32) : (1 : Int) ≤ 2 ^ k ∧ (2 : Int) ^ k ≤ 4294967296 := by
  have h1 : (2 : Nat) ^ k ≤ 2 ^ 32 := Nat.pow_le_pow_right (by omega) h
  have h2 : 1 ≤ (2 : Nat) ^ k := Nat.one_le_two_pow
  have : (2 : Int) ^ k = ((2 ^ k : Nat) : Int) := by simp
  rw [this]; omega

theorem pure_tv (t : Tt) (v : Vl) : pureL? [.agg t.cells, .agg v.cells] = true := by simp [pureL?, pure?, pure_tcells, pure_cells]

theorem all_lp (n : Nat) (u u' : Bool) (ts : List Tt) (vs : List Vl) (hlen : vs.length ≤ ts.length) (hb : vs.length ≤ 20000) (Q : PV → Store → Prop)
    (hp : ∀ t ∈ ts, ∀ v ∈ vs, cl n f_value_parts [.agg t.cells, .agg v.cells] S0 = some (i64 (ptT t v), S0)) :
    ∀ (r : List Vl) (q : List Tt) (i m : Nat) (acc : Int), vs.drop i = r → ts.drop i = q → r.length < m → 0 ≤ acc → acc ≤ 4000 → Q (i64 (ptL q r acc)) S0 →
      L_value_all_0 n m u ts.length (tcells ts) u' vs.length (cellsL vs) acc (i : Int) Q
  | [], q, i, m, acc, hd, hq, hm, h0, h1, hQ => by
    obtain ⟨m, rfl⟩ : ∃ k, m = k + 1 := ⟨m - 1, by omega⟩
    have := drop_len hd
    simp only [List.length_nil] at this
    rw [ptL_nil] at hQ
    exact lp_value_all_0 n m u _ _ u' _ _ acc _ Q (br_dec (fun h => absurd h (by omega)) fun _ => hQ)
  | v :: r, q, i, m, acc, hd, hq, hm, h0, h1, hQ => by
    obtain ⟨m, rfl⟩ : ∃ k, m = k + 1 := ⟨m - 1, by omega⟩
    obtain ⟨g1, g2, g3⟩ := drop_get hd
    cases q with
    | nil => have := drop_len hq; simp at this; omega
    | cons t q =>
      obtain ⟨k1, k2, k3⟩ := drop_get hq
      have hv := ld_V g1
      have ht := ld_T k1
      have hi := idx_ok g3 (cellsL_length vs) (k := 3) (by omega)
      have hj := idx_ok k3 (tcells_length ts) (k := 4) (by omega)
      have hc := hp t (List.mem_of_getElem? k1) v (List.mem_of_getElem? g1)
      have hb2 := ptT_le v t
      have e1 : IntKind.i64.wrap ((i : Int) + 1) = ((i + 1 : Nat) : Int) := by rw [wrap64 (by omega)]; simp
      have e2 : IntKind.i64.wrap (acc + ptT t v) = acc + ptT t v := wrap64 (by omega)
      have ih := fun a b => all_lp n u u' ts vs hlen hb Q hp r q (i + 1) m (acc + ptT t v) g2 k2 (by simp at hm; omega) a b
      rw [ptL_cons] at hQ
      refine lp_value_all_0 n m u _ _ u' _ _ acc _ Q (br_dec (fun _ => ?_) fun h => absurd (by omega) h)
      rw [e1]
      generalize ptT t v = w at *
      have rest : br (decide (w = 0)) (Q (i64 0) ⟨[], 0⟩) (br (decide (IntKind.i64.wrap (acc + w) > 4000)) (Q (i64 0) ⟨[], 0⟩) (L_value_all_0 n m u ts.length (tcells ts) u' vs.length (cellsL vs) (IntKind.i64.wrap (acc + w)) ((i + 1 : Nat) : Int) Q)) := by
        rw [e2]
        refine br_dec (fun c1 => ?_) fun c1 => br_dec (fun c2 => ?_) fun c2 => ?_
        · rw [if_pos (.inl c1)] at hQ; exact hQ
        · rw [if_pos (.inr (by omega))] at hQ; exact hQ
        · rw [if_neg (by omega)] at hQ; exact ih (by omega) (by omega) hQ
      clear hQ ih hp
      obtain ⟨N, us, S, ul, L⟩ := v
      obtain ⟨K', un', nm', ul', l', R'⟩ := t
      exact ⟨hi, _, _, _, _, _, _, _, hv, hj, _, _, _, _, _, _, _, _, ht, _, hc, rest⟩

theorem all_of {n : Nat} (u u' : Bool) (ts : List Tt) (vs : List Vl) (hlen : vs.length ≤ ts.length) (hb : vs.length ≤ 20000) (hn : 20002 ≤ n)
    (hp : ∀ t ∈ ts, ∀ v ∈ vs, cl (n - 1) f_value_parts [.agg t.cells, .agg v.cells] S0 = some (i64 (ptT t v), S0)) (S : Store) :
    cl n f_value_all [.sl u ts.length (tcells ts), .sl u' vs.length (cellsL vs)] S = some (i64 (ptL ts vs 1), S) := by
  obtain ⟨n, rfl⟩ : ∃ k, n = k + 1 := ⟨n - 1, by omega⟩
  exact cl_of (by kernel_rfl) rfl (Ret.eq (vc_value_all n u _ _ u' _ _ _ (all_lp n u u' ts vs hlen hb _ hp vs ts 0 n 1 rfl rfl (by omega) (by omega) (by omega) ⟨rfl, rfl⟩))) rfl

theorem plK_13 {t : Tt} (h : plK t = 13) : t.K = 13 ∨ t.K = 14 := by
  unfold plK at h
  split at h
  · exact .inr (by assumption)
  · split at h
    · omega
    · exact .inl h
theorem pl_same {t : Tt} (h : t.K ≠ 16) (h' : t.K ≠ 17) : pl t = t.l := by unfold pl; rw [if_neg h, if_neg h']

theorem parts_entry (n : Nat) (K : Int) (un : Bool) (nm : List ByteArray) (ul : Bool) (l : List Tt) (R N : Int) (us : Bool) (S : List Int) (vl : Bool) (L : List Vl) (Q : PV → Store → Prop)
    (ht : OkT (.mk K un nm ul l R)) (hS : S.length ≤ 20000) (hL : L.length ≤ 20000) (hn : 23000 ≤ n)
    (hall : ∀ (u u' : Bool) (ts : List Tt), L.length ≤ ts.length → (∀ x ∈ ts, OkT x) → cl n f_value_all [.sl u ts.length (tcells ts), .sl u' L.length (cellsL L)] S0 = some (i64 (ptL ts L 1), S0))
    (hQ : Q (i64 (ptT (.mk K un nm ul l R) (.mk N us S vl L))) S0) : Ret cfg (n + 1) f_value_parts [.agg (Tt.mk K un nm ul l R).cells, .agg (Vl.mk N us S vl L).cells] S0 Q := by
  have hown := ht.own
  obtain ⟨l1, l2⟩ := ht.lens
  simp only [Tt.K, Tt.nm, Tt.l, Tt.R] at hown l1 l2
  have hspan := span_cl (n := n) (by omega) K S0
  have hw : IntKind.i64.wrap (((S.length : Nat) : Int) + ((L.length : Nat) : Int)) = (S.length : Int) + L.length := wrap64 (by omega)
  have hw1 : IntKind.i64.wrap ((1 : Int) + ((S.length : Nat) : Int)) = 1 + S.length := wrap64 (by omega)
  refine vc_value_parts n K un _ _ ul _ _ R N us _ _ vl _ _ Q ?_
  rw [hw, hw1]
  cases hr : rng K with
  | some p =>
    obtain ⟨lo, hi⟩ := p
    rw [hr] at hspan
    have e : ptT (.mk K un nm ul l R) (.mk N us S vl L) = if lo ≤ N ∧ N ≤ hi ∧ S.length = 0 ∧ L.length = 0 then 1 else 0 := by
      unfold ptT leafP; simp only [Tt.K, hr]
    rw [e] at hQ
    refine ⟨_, _, _, hspan, br_true (br_dec (fun c => ?_) fun c => br_dec (fun c' => ?_) fun c' => br_dec (fun c2 => ?_) fun c2 => ?_)⟩
    · rw [if_neg (by omega)] at hQ; exact hQ
    · rw [if_neg (by omega)] at hQ; exact hQ
    · rw [if_neg (by omega)] at hQ; exact hQ
    · rw [if_pos (by omega)] at hQ; exact hQ
  | none =>
    rw [hr] at hspan
    refine ⟨_, _, _, hspan, br_false (br_dec (fun k => ?_) fun k10 => br_dec (fun k => ?_) fun k11 => br_dec (fun k => ?_) fun k19 => ?_)⟩
    · subst k
      have e : ptT (.mk 10 un nm ul l R) (.mk N us S vl L) = if scalar N = true ∧ S.length = 0 ∧ L.length = 0 then 1 else 0 := by
        unfold ptT leafP; simp only [Tt.K, hr, if_true]
      rw [e] at hQ
      refine ⟨_, utf_Scalar_cl (by omega) N _, br_intro (fun c => ?_) fun c => br_dec (fun c2 => ?_) fun c2 => ?_⟩
      · rw [if_neg (by simp at c; simp [c])] at hQ; exact hQ
      · rw [if_neg (by omega)] at hQ; exact hQ
      · rw [if_pos ⟨by simpa using c, by omega, by omega⟩] at hQ; exact hQ
    · subst k
      have e : ptT (.mk 11 un nm ul l R) (.mk N us S vl L) = if N = 0 ∧ L.length = 0 ∧ S.length ≤ 1000 ∧ (S.any fun p => !scalar p) = false then 1 + (S.length : Int) else 0 := by
        unfold ptT leafP; simp only [Tt.K, hr]; rfl
      rw [e] at hQ
      refine br_ndec (fun c => ?_) fun c => br_dec (fun c' => ?_) fun c' => br_dec (fun c2 => ?_) fun c2 => ⟨_, ContainsFunc_cl us S (by omega) (by omega) _, br_intro (fun c3 => ?_) fun c3 => ?_⟩
      · rw [if_neg (fun h => c h.1)] at hQ; exact hQ
      · rw [if_neg (by omega)] at hQ; exact hQ
      · rw [if_neg (by omega)] at hQ; exact hQ
      · rw [if_neg (by rw [c3]; simp)] at hQ; exact hQ
      · rw [if_pos ⟨c, by omega, by omega, c3⟩] at hQ; exact hQ
    · subst k
      have hnm : nm.length ≤ 32 := by unfold OwnP at hown; omega
      have hp := pow_le64 hnm
      have e : ptT (.mk 19 un nm ul l R) (.mk N us S vl L) = if 0 ≤ N ∧ N < (2 : Int) ^ nm.length ∧ S.length = 0 ∧ L.length = 0 then 1 else 0 := by
        unfold ptT leafP; simp only [Tt.K, hr]; rfl
      rw [e] at hQ
      have hsh : IntKind.i64.wrap (1 * (2 : Int) ^ (min (Int.toNat ((nm.length : Nat) : Int)) 64)) = (2 : Int) ^ nm.length := by
        rw [Int.toNat_natCast, Nat.min_eq_left (by omega), Int.one_mul, wrap64 (by omega)]
      rw [hsh]
      generalize (2 : Int) ^ nm.length = p at *
      refine br_dec (fun c => ?_) fun c => ⟨by omega, br_dec (fun c' => ?_) fun c' => br_dec (fun c2 => ?_) fun c2 => ?_⟩
      · rw [if_neg (by omega)] at hQ; exact hQ
      · rw [if_neg (by omega)] at hQ; exact hQ
      · rw [if_neg (by omega)] at hQ; exact hQ
      · rw [if_pos (by omega)] at hQ; exact hQ
    · have hlf : leafP K nm.length N S L.length = none := by unfold leafP; simp only [hr]; rw [if_neg k10, if_neg k11, if_neg k19]
      have hnr := rng_none hr
      have e : ptT (.mk K un nm ul l R) (.mk N us S vl L) = if S.length ≠ 0 then 0 else
          if K = 12 then (if N = 0 ∧ L.length ≤ 1000 then ptL (List.replicate L.length (l.headD zeroT)) L 1 else 0)
          else if K = 13 ∨ K = 14 then (if N = 0 ∧ L.length = l.length then ptL l L 1 else 0)
          else match (if 0 ≤ N then (pl (.mk K un nm ul l R))[N.toNat]? else none) with
            | none => 0
            | some x => if x.K = 0 then (if L.length = 0 then 1 else 0) else if L.length = 1 then ptL [x] L 1 else 0 := by
        unfold ptT; simp only [Tt.K, Tt.nm, hlf, Tt.l]; rfl
      rw [e] at hQ
      refine br_dec (fun k => ?_) fun k12 => ?_
      · subst k
        have hl1 : l.length = 1 := by unfold OwnP at hown; omega
        obtain ⟨x, rfl⟩ : ∃ x, l = [x] := by
          match l, hl1 with
          | [x], _ => exact ⟨x, rfl⟩
        have hx : OkT x := by
          rcases ht.mem (x := x) (by simp [Tt.l]) with h | h
          · simp [Tt.K] at h
          · exact h
        simp only [if_true, List.headD_cons] at hQ
        refine br_ndec (fun c => ?_) fun c => br_dec (fun c' => ?_) fun c' => br_dec (fun c2 => ?_) fun c2 => ⟨_, _, _, Repeat_cl (by omega) ul x L.length (by omega) _, ?_⟩
        · split at hQ
          · exact hQ
          · rw [if_neg (fun h => c h.1)] at hQ; exact hQ
        · rw [if_pos (by omega)] at hQ; exact hQ
        · split at hQ
          · exact hQ
          · rw [if_neg (by omega)] at hQ; exact hQ
        · rw [if_neg (by omega), if_pos ⟨c, by omega⟩] at hQ
          have h := hall false vl (List.replicate L.length x) (by simp) (fun y hy => by rw [List.eq_of_mem_replicate hy]; exact hx)
          rw [List.length_replicate] at h
          exact ⟨_, h, hQ⟩
      · rw [if_neg k12] at hQ
        obtain ⟨u, k, cs, u', R', hplain⟩ := Plain_cl (n := n) (.mk K un nm ul l R) (by omega) l1 l2 S0
        refine ⟨_, _, _, _, _, _, _, _, hplain, br_dec (fun k => ?_) fun k13 => ?_⟩
        · have hK : K = 13 ∨ K = 14 := by
            exact plK_13 k
          have epl : pl (.mk K un nm ul l R) = l := pl_same (t := .mk K un nm ul l R) (by simp only [Tt.K]; omega) (by simp only [Tt.K]; omega)
          rw [epl]
          rw [if_pos hK] at hQ
          refine br_ndec (fun c => ?_) fun c => br_dec (fun c' => ?_) fun c' => br_ndec (fun c2 => ?_) fun c2 => ?_
          · split at hQ
            · exact hQ
            · rw [if_neg (fun h => c h.1)] at hQ; exact hQ
          · rw [if_pos (by omega)] at hQ; exact hQ
          · split at hQ
            · exact hQ
            · rw [if_neg (by omega)] at hQ; exact hQ
          · rw [if_neg (by omega), if_pos ⟨c, by omega⟩] at hQ
            refine ⟨_, hall u' vl l (by omega) (fun y hy => ?_), hQ⟩
            rcases ht.mem (x := y) hy with h | h
            · simp only [Tt.K] at h; omega
            · exact h
        · have hK : ¬ (K = 13 ∨ K = 14) := by
            rintro (h | h) <;> subst h <;> exact k13 rfl
          rw [if_neg hK] at hQ
          refine br_dec (fun c => ?_) fun c => br_dec (fun c' => ?_) fun c' => br_dec (fun c2 => ?_) fun c2 => ?_
          · split at hQ
            · exact hQ
            · rw [if_neg (show ¬ (0 : Int) ≤ N by omega)] at hQ; exact hQ
          · split at hQ
            · exact hQ
            · rw [if_pos (by omega), List.getElem?_eq_none (by omega)] at hQ; exact hQ
          · rw [if_pos (by omega)] at hQ; exact hQ
          · rw [if_neg (by omega), if_pos (by omega)] at hQ
            obtain ⟨j, rfl⟩ : ∃ j : Nat, N = j := ⟨N.toNat, by omega⟩
            rw [Int.toNat_natCast] at hQ
            have hj : j < (pl (.mk K un nm ul l R)).length := by omega
            have hx := List.getElem?_eq_getElem hj
            generalize (pl (.mk K un nm ul l R))[j] = x at *
            rw [hx] at hQ
            simp only at hQ
            refine ⟨idx_ok hj (tcells_length _) (by omega), _, ld_K hx, br_dec (fun c3 => br_dec (fun c4 => ?_) fun c4 => ?_) fun c3 => br_ndec (fun c4 => ?_) fun c4 => ?_⟩
            · rw [if_pos c3, if_neg (by omega)] at hQ; exact hQ
            · rw [if_pos c3, if_pos (by omega)] at hQ; exact hQ
            · rw [if_neg c3, if_neg (by omega)] at hQ; exact hQ
            · rw [if_neg c3, if_pos (by omega)] at hQ
              have hpl : (pl (.mk K un nm ul l R)).length ≤ 65 := by
                unfold pl
                split
                · simp [Tt.nm]; omega
                · split
                  · simp [Tt.l]; omega
                  · simp [Tt.l]; omega
              have hwj : IntKind.i64.wrap ((j : Int) + 1) = ((j + 1 : Nat) : Int) := by rw [wrap64 (by omega)]; simp
              rw [hwj]
              simp only [Int.toNat_natCast]
              have hone : j + 1 - j = 1 := by omega
              have hcut : List.take ((j + 1 - j) * 4) (List.drop (j * 4) (tcells (pl (.mk K un nm ul l R)))) = tcells [x] := by
                rw [hone, tcells_one, tcells_cat]; exact cat_at tcell_len hx
              rw [hcut, hone]
              have hOx : OkT x := by
                rcases pl_ok ht hx with h | h
                · exact absurd h c3
                · exact h
              refine ⟨⟨by omega, by omega, trivial, by omega, by omega, by omega, by rw [tcells_length]⟩, _, hall _ vl [x] (by simp; omega) (fun y hy => ?_), hQ⟩
              obtain rfl := List.mem_singleton.1 hy; exact hOx

theorem parts_of {n : Nat} (t : Tt) (v : Vl) (ht : OkT t) (hS : v.S.length ≤ 20000) (hL : v.L.length ≤ 20000) (hn : 24000 ≤ n)
    (hp : ∀ x, OkT x → ∀ w ∈ v.L, cl (n - 2) f_value_parts [.agg x.cells, .agg w.cells] S0 = some (i64 (ptT x w), S0)) (S : Store) :
    cl n f_value_parts [.agg t.cells, .agg v.cells] S = some (i64 (ptT t v), S) := by
  obtain ⟨n, rfl⟩ : ∃ k, n = k + 1 := ⟨n - 1, by omega⟩
  have hall : ∀ (u u' : Bool) (ts : List Tt), v.L.length ≤ ts.length → (∀ x ∈ ts, OkT x) → cl n f_value_all [.sl u ts.length (tcells ts), .sl u' v.L.length (cellsL v.L)] S0 = some (i64 (ptL ts v.L 1), S0) := fun u u' ts h1 h2 =>
    all_of (n := n) u u' ts v.L h1 hL (by omega) (fun x hx w hw => hp x (h2 x hx) w hw) S0
  have hpu := pure_tv t v
  obtain ⟨K, un, nm, ul, l, R⟩ := t
  obtain ⟨N, us, Sv, vl, L⟩ := v
  exact cl_of (by kernel_rfl) hpu (Ret.eq (parts_entry n K un nm ul l R N us Sv vl L _ ht hS hL (by omega) hall ⟨rfl, rfl⟩)) rfl

theorem okL_mem : ∀ {l : List Vl} {v : Vl} {d : Nat}, okL l d → v ∈ l → okV v d
  | [], v, d, _, h => by cases h
  | u :: r, v, d, hk, h => by
    rcases List.mem_cons.1 h with rfl | h
    · exact hk.1
    · exact okL_mem hk.2 h

theorem parts_cl' : ∀ (d : Nat) (t : Tt) (v : Vl) (n : Nat) (S : Store), OkT t → okV v d → 25000 + 2 * d ≤ n → cl n f_value_parts [.agg t.cells, .agg v.cells] S = some (i64 (ptT t v), S) := by
  intro d
  induction d with
  | zero =>
    intro t v n S ht hv hn
    obtain ⟨N, us, Sv, vl, L⟩ := v
    obtain ⟨h1, h2, h3, h4⟩ := hv
    omega
  | succ d ih =>
    intro t v n S ht hv hn
    refine parts_of t v ht ?_ ?_ (by omega) (fun x hx w hw => ih x w (n - 2) S0 hx ?_ (by omega)) S
    · obtain ⟨N, us, Sv, vl, L⟩ := v; exact hv.1
    · obtain ⟨N, us, Sv, vl, L⟩ := v; exact hv.2.1
    · obtain ⟨N, us, Sv, vl, L⟩ := v; exact okL_mem hv.2.2.2 hw

theorem all_cl {n : Nat} (u u' : Bool) (ts : List Tt) (vs : List Vl) (d : Nat) (hlen : vs.length ≤ ts.length) (hb : vs.length ≤ 20000) (ht : ∀ t ∈ ts, OkT t) (hv : ∀ v ∈ vs, okV v d) (hn : 25001 + 2 * d ≤ n) (S : Store) :
    cl n f_value_all [.sl u ts.length (tcells ts), .sl u' vs.length (cellsL vs)] S = some (i64 (ptL ts vs 1), S) :=
  all_of u u' ts vs hlen hb (by omega) (fun t h v h' => parts_cl' d t v (n - 1) S0 (ht t h) (hv v h') (by omega)) S
end Go.Proofs.YtmjnfdjhaopeiaaGreatDoor
