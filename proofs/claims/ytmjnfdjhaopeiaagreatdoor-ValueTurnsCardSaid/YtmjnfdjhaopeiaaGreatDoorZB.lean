/-
  A part of the proof: Z5, Z6.
-/
import Derived.Test.YtmjnfdjhaopeiaaGreatDoorZA
namespace Go.Proofs.YtmjnfdjhaopeiaaGreatDoor
open Go Go.Pvm
set_option maxRecDepth 100000

theorem ld_T {l : List Tt} {i : Nat} {t : Tt} (h : l[i]? = some t) : ld prog t_api_Type (tcells l) (Int.toNat (i : Int) * 4) (.agg t.cells) := by
  rw [tcells_cat, Int.toNat_natCast]; exact ld_cat tcell_len agg_Type size_Type h
theorem tcells_len (l : List Tt) : (tcells l).length = l.length * 4 := by rw [tcells_cat, cat_len tcell_len]

def noneT (t : Tt) : Bool := decide (t.K = 0) && (decide (t.R = 0) && (decide (t.nm.length = 0) && decide (t.l.length = 0)))

theorem none_cl {n : Nat} (h : 1 ≤ n) (t : Tt) (hf : t.fits) (S : Store) : cl n f_ctype_none [.agg t.cells] S = some (bl (noneT t), S) := by
  obtain ⟨n, rfl⟩ : ∃ k, n = k + 1 := ⟨n - 1, by omega⟩
  obtain ⟨K, un, nm, ul, l, R⟩ := t
  obtain ⟨f1, f2, f3⟩ := hf
  refine cl_of (by kernel_rfl) rfl (Ret.eq (vc_ctype_none n K un _ _ ul _ _ R _ ?_)) rfl
  refine br_dec (fun h1 => br_dec (fun h2 => ⟨?_, rfl⟩) (fun h2 => ⟨?_, rfl⟩)) (fun h1 => ⟨?_, rfl⟩)
  · rw [wrap64 (by omega)]
    simp [noneT, Tt.K, Tt.R, Tt.nm, Tt.l, h1, h2]
    rw [Bool.eq_iff_iff]; simp
    rw [← List.length_eq_zero_iff, ← List.length_eq_zero_iff]; omega
  · simp [noneT, Tt.K, Tt.R, h2]
  · simp [noneT, Tt.K, h1]
theorem None_cl {n : Nat} (h : 1 ≤ n) (t : Tt) (S : Store) : cl n f_scarfref11_None [.agg t.cells] S = some (bl (noneT t), S) := by
  obtain ⟨n, rfl⟩ : ∃ k, n = k + 1 := ⟨n - 1, by omega⟩
  obtain ⟨K, un, nm, ul, l, R⟩ := t
  refine cl_of (by kernel_rfl) rfl (Ret.eq (vc_scarfref11_None n K un _ _ ul _ _ R _ ?_)) rfl
  refine br_dec (fun h1 => br_dec (fun h2 => br_dec (fun h3 => ⟨?_, rfl⟩) (fun h3 => ⟨?_, rfl⟩)) (fun h2 => ⟨?_, rfl⟩)) (fun h1 => ⟨?_, rfl⟩)
  all_goals simp [noneT, Tt.K, Tt.R, Tt.nm, Tt.l, *] at *
  all_goals simp_all

/-- A type's own fields may be. -/
def OwnP (K : Int) (d : Nat) (nm l : Nat) (R : Int) : Prop :=
  (nm = 0 ∧ R = 0 ∧ 1 ≤ K ∧ K ≤ 11 ∧ l = 0) ∨ (nm = 0 ∧ R = 0 ∧ (K = 12 ∨ K = 17) ∧ l = 1) ∨ (nm = 0 ∧ R = 0 ∧ K = 14 ∧ 0 < l ∧ l ≤ 64) ∨ (nm = 0 ∧ R = 0 ∧ K = 18 ∧ l = 2) ∨
  (R = 0 ∧ (K = 13 ∨ K = 15) ∧ d = 1 ∧ l = nm ∧ nm ≤ 64) ∨ (R = 0 ∧ K = 16 ∧ d = 1 ∧ l = 0 ∧ nm ≤ 64) ∨ (R = 0 ∧ K = 19 ∧ d = 1 ∧ l = 0 ∧ nm ≤ 32) ∨ ((K = 20 ∨ K = 21) ∧ nm = 0 ∧ l = 0 ∧ 0 ≤ R ∧ R ≤ 1048576)
def ownT (t : Tt) : Prop := OwnP t.K (distB t.nm 64).toNat t.nm.length t.l.length t.R
instance (t : Tt) : Decidable (ownT t) := by unfold ownT OwnP; infer_instance

theorem distB_len {l : List ByteArray} {m : Int} (h : distB l m = true) : 1 ≤ l.length ∧ (l.length : Int) ≤ m := by
  simp [distB] at h; omega
theorem distB_32 (l : List ByteArray) : distB l 32 = (distB l 64 && decide (l.length ≤ 32)) := by
  unfold distB
  rw [Bool.eq_iff_iff]; simp
  constructor
  · rintro ⟨h, h1, h2⟩; exact ⟨⟨h, h1, by omega⟩, by omega⟩
  · rintro ⟨⟨h, h1, h2⟩, h3⟩; exact ⟨h, h1, by omega⟩

set_option maxHeartbeats 4000000 in
theorem within_entry (n : Nat) (K : Int) (un : Bool) (nm : List ByteArray) (ul : Bool) (l : List Tt) (R d : Int) (hn : nm.length + 40 ≤ n) (f1 : nm.length ≤ 140737488355328) (f2 : l.length ≤ 140737488355328) (Q : PV → Store → Prop)
    (h1 : (¬ OwnP K (distB nm 64).toNat nm.length l.length R ∨ 16 < d) → Q (i64 0) S0)
    (h2 : OwnP K (distB nm 64).toNat nm.length l.length R → d ≤ 16 → L_ctype_within_0 n n K un nm.length (nm.map str) ul l.length (tcells l) R d 1 0 Q) :
    Ret cfg (n + 1) f_ctype_within [.agg (Tt.mk K un nm ul l R).cells, i64 d] S0 Q := by
  have hd := distinct_cl (n := n) un nm (by omega) (by omega) S0
  have hlen : distB nm 64 = true → 1 ≤ nm.length ∧ nm.length ≤ 64 := fun h => by have := distB_len h; omega
  unfold OwnP at h1 h2
  refine vc_ctype_within n K un _ _ ul _ _ R d Q ?_
  have hw : IntKind.i64.wrap (((nm.length : Nat) : Int) + ((l.length : Nat) : Int)) = (nm.length : Int) + l.length := wrap64 (by omega)
  simp only [hw]
  cases hdd : distB nm 64 with
  | false =>
    rw [hdd] at hd
    simp only [hdd, Bool.toNat_false] at h1 h2
    repeat' (first | with_reducible refine br_ndec (fun _ => ?_) (fun _ => ?_) | with_reducible refine br_dec (fun _ => ?_) (fun _ => ?_) | with_reducible refine ⟨_, hd, ?_⟩ | refine br_false ?_ | refine br_true ?_)
    all_goals first | exact h1 (by clear h1 h2 hd hw; grind) | exact h2 (by clear h1 h2 hd hw; grind) (by omega)
  | true =>
    have := hlen hdd
    rw [hdd] at hd
    simp only [hdd, Bool.toNat_true] at h1 h2
    repeat' (first | with_reducible refine br_ndec (fun _ => ?_) (fun _ => ?_) | with_reducible refine br_dec (fun _ => ?_) (fun _ => ?_) | with_reducible refine ⟨_, hd, ?_⟩ | refine br_false ?_ | refine br_true ?_)
    all_goals first | exact h1 (by clear h1 h2 hd hw; grind) | exact h2 (by clear h1 h2 hd hw; grind) (by omega)
end Go.Proofs.YtmjnfdjhaopeiaaGreatDoor

namespace Go.Proofs.YtmjnfdjhaopeiaaGreatDoor
open Go Go.Pvm
set_option maxRecDepth 100000

instance (K : Int) (d nm l : Nat) (R : Int) : Decidable (OwnP K d nm l R) := by unfold OwnP; infer_instance

mutual
def withinT : Tt → Int → Int
  | .mk K _ nm _ l R, d => if OwnP K (distB nm 64).toNat nm.length l.length R ∧ d ≤ 16 then withinL K l d 1 else 0
def withinL (K : Int) : List Tt → Int → Int → Int
  | [], _, n => n
  | x :: r, d, n => if (K = 15 ∨ K = 18) ∧ noneT x = true then withinL K r d n else
      if withinT x (d + 1) = 0 ∨ 500 < n + withinT x (d + 1) then 0 else withinL K r d (n + withinT x (d + 1))
end

mutual
theorem withinT_le : ∀ (t : Tt) (d : Int), 0 ≤ withinT t d ∧ withinT t d ≤ 500
  | .mk K _ nm _ l R, d => by
    simp only [withinT]
    split
    · exact withinL_le K l d 1 (by omega) (by omega)
    · omega
theorem withinL_le (K : Int) : ∀ (l : List Tt) (d n : Int), 0 ≤ n → n ≤ 500 → 0 ≤ withinL K l d n ∧ withinL K l d n ≤ 500
  | [], _, n, h0, h1 => by simp only [withinL]; omega
  | x :: r, d, n, h0, h1 => by
    simp only [withinL]
    have := withinT_le x (d + 1)
    split
    · exact withinL_le K r d n h0 h1
    · split
      · omega
      · exact withinL_le K r d _ (by omega) (by omega)
end

mutual
theorem within_cl : ∀ (t : Tt) (d : Int) (n : Nat) (S : Store), t.fits → t.sz + 60 ≤ n → 0 ≤ d → d ≤ 17 → cl n f_ctype_within [.agg t.cells, i64 d] S = some (i64 (withinT t d), S)
  | .mk K un nm ul l R, d, n, S, ⟨f1, f2, f3⟩, hn, hd0, hd => by
    obtain ⟨n, rfl⟩ : ∃ k, n = k + 1 := ⟨n - 1, by omega⟩
    simp only [Tt.sz] at hn
    refine cl_of (by kernel_rfl) (by simp [pureL?, pure?, pure_tcells]) (Ret.eq (within_entry n K un nm ul l R d (by omega) f1 f2 _ (fun h => ⟨?_, rfl⟩) fun h1 h2 => ?_)) rfl
    · simp only [withinT]; rw [if_neg (by intro h'; rcases h with h | h; exact h h'.1; omega)]
    · have := tsz_len l
      refine within_lp l l 0 K un nm ul R d n n 1 _ rfl f3 f2 (by omega) (by omega) hd0 h2 (by omega) (by omega) ⟨?_, rfl⟩
      simp only [withinT]; rw [if_pos ⟨h1, h2⟩]
theorem within_lp : ∀ (r l : List Tt) (i : Nat) (K : Int) (un : Bool) (nm : List ByteArray) (ul : Bool) (R d : Int) (n m : Nat) (acc : Int) (Q : PV → Store → Prop), l.drop i = r → tfits r → l.length ≤ 140737488355328 → tsz r + 60 ≤ n → r.length < m → 0 ≤ d → d ≤ 16 → 0 ≤ acc → acc ≤ 500 →
    Q (i64 (withinL K r d acc)) S0 → L_ctype_within_0 n m K un nm.length (nm.map str) ul l.length (tcells l) R d acc (i : Int) Q
  | [], l, i, K, un, nm, ul, R, d, n, m, acc, Q, hd, hf, hl, hn, hm, hd0, hd1, ha0, ha1, hQ => by
    obtain ⟨m, rfl⟩ : ∃ k, m = k + 1 := ⟨m - 1, by omega⟩
    have := drop_len hd
    simp only [List.length_nil] at this
    exact lp_ctype_within_0 n m K un _ _ ul _ _ R d acc _ Q (br_dec (fun h => absurd h (by omega)) fun _ => hQ)
  | x :: r, l, i, K, un, nm, ul, R, d, n, m, acc, Q, hd, hf, hl, hn, hm, hd0, hd1, ha0, ha1, hQ => by
    obtain ⟨m, rfl⟩ : ∃ k, m = k + 1 := ⟨m - 1, by omega⟩
    obtain ⟨h1, h2, h3⟩ := drop_get hd
    simp only [tsz] at hn
    have hx := ld_T h1
    have hnone := none_cl (n := n) (by omega) x hf.1 S0
    have hb := withinT_le x (d + 1)
    have e1 : IntKind.i64.wrap ((i : Int) + 1) = ((i + 1 : Nat) : Int) := by rw [wrap64 (by omega)]; simp
    have e2 : IntKind.i64.wrap (d + 1) = d + 1 := wrap64 (by omega)
    have hw : cl n f_ctype_within [.agg x.cells, i64 (IntKind.i64.wrap (d + 1))] S0 = some (i64 (withinT x (d + 1)), S0) := by rw [e2]; exact within_cl x (d + 1) n S0 hf.1 (by omega) (by omega) (by omega)
    have e3 : IntKind.i64.wrap (acc + withinT x (d + 1)) = acc + withinT x (d + 1) := wrap64 (by omega)
    have go : ∀ acc', 0 ≤ acc' → acc' ≤ 500 → Q (i64 (withinL K r d acc')) S0 → L_ctype_within_0 n m K un nm.length (nm.map str) ul l.length (tcells l) R d acc' ((i + 1 : Nat) : Int) Q := fun acc' g0 g1 g2 =>
      within_lp r l (i + 1) K un nm ul R d n m acc' Q h2 hf.2 hl (by omega) (by simp at hm; omega) hd0 hd1 g0 g1 g2
    have rest : ((K = 15 ∨ K = 18) → noneT x = false) → br (decide (withinT x (d + 1) = 0)) (Q (i64 0) ⟨[], 0⟩) (br (decide (IntKind.i64.wrap (acc + withinT x (d + 1)) > 500)) (Q (i64 0) ⟨[], 0⟩)
        (L_ctype_within_0 n m K un nm.length (nm.map str) ul l.length (tcells l) R d (IntKind.i64.wrap (acc + withinT x (d + 1))) (IntKind.i64.wrap ((i : Int) + 1)) Q)) := by
      intro hno
      simp only [withinL] at hQ
      rw [if_neg (by rintro ⟨h, h'⟩; rw [hno h] at h'; cases h')] at hQ
      rw [e1, e3]
      refine br_dec (fun k1 => ?_) fun k1 => br_dec (fun k2 => ?_) fun k2 => ?_
      · rw [if_pos (.inl k1)] at hQ; exact hQ
      · rw [if_pos (.inr (by omega))] at hQ; exact hQ
      · rw [if_neg (by omega)] at hQ; exact go _ (by omega) (by omega) hQ
    have skip : (K = 15 ∨ K = 18) → noneT x = true → L_ctype_within_0 n m K un nm.length (nm.map str) ul l.length (tcells l) R d acc (IntKind.i64.wrap ((i : Int) + 1)) Q := by
      intro hk hno
      simp only [withinL] at hQ
      rw [if_pos ⟨hk, hno⟩] at hQ
      rw [e1]; exact go acc ha0 ha1 hQ
    refine lp_ctype_within_0 n m K un _ _ ul _ _ R d acc _ Q (br_dec (fun _ => ?_) fun h => absurd (by omega) h)
    generalize withinT x (d + 1) = w at *
    generalize noneT x = b at *
    clear hQ go
    obtain ⟨K', un', nm', ul', l', R'⟩ := x
    refine ⟨idx_ok h3 (tcells_len l) (by omega), _, _, _, _, _, _, _, _, hx, br_dec (fun k => ⟨_, hnone, br_intro (fun h => skip (.inl k) h) fun h => ⟨_, hw, rest fun _ => h⟩⟩) fun k => br_dec (fun k' => ⟨_, hnone, br_intro (fun h => skip (.inr k') h) fun h => ⟨_, hw, rest fun _ => h⟩⟩) fun k' => ⟨_, hw, rest (by omega)⟩⟩
end
end Go.Proofs.YtmjnfdjhaopeiaaGreatDoor
