/-
  A part of the proof: Z2, Z3, Z4.
-/
import Derived.Test.YtmjnfdjhaopeiaaGreatDoorZ1
import Derived.Test.YtmjnfdjhaopeiaaGreatDoorPzA
namespace Go.Proofs.YtmjnfdjhaopeiaaGreatDoor
open Go Go.Pvm
set_option maxRecDepth 100000
abbrev S0 : Store := ⟨[], 0⟩
theorem wrap64 {z : Int} (h : -9223372036854775808 ≤ z ∧ z < 9223372036854775808) : IntKind.i64.wrap z = z := IntWalk.i64_in _ (by omega)

def scalar (a : Int) : Bool := decide (0 ≤ a ∧ a ≤ 1114111 ∧ (a < 55296 ∨ 57343 < a))

theorem utf_Scalar_run (n : Nat) (a : Int) : run cfg (n + 1) f_utf_Scalar [i64 a] S0 = some (bl (scalar a), S0) := by
  refine Ret.eq (vc_utf_Scalar n a _ ?_)
  repeat' refine br_dec (fun _ => ?_) (fun _ => ?_)
  all_goals refine ⟨?_, rfl⟩
  all_goals first | (simp [scalar]; omega) | (simp [scalar]; intros; constructor <;> omega) | grind [scalar]
theorem ref_Scalar_run (n : Nat) (a : Int) : run cfg (n + 1) f_scarfref02_Scalar [i64 a] S0 = some (bl (scalar a), S0) := by
  refine Ret.eq (vc_scarfref02_Scalar n a _ ?_)
  repeat' refine br_dec (fun _ => ?_) (fun _ => ?_)
  all_goals refine ⟨?_, rfl⟩
  all_goals first | (simp [scalar]; omega) | (simp [scalar]; intros; constructor <;> omega) | grind [scalar]
theorem utf_Scalar_cl {n : Nat} (h : 1 ≤ n) (a : Int) (S : Store) : cl n f_utf_Scalar [i64 a] S = some (bl (scalar a), S) := by
  obtain ⟨n, rfl⟩ : ∃ k, n = k + 1 := ⟨n - 1, by omega⟩
  exact cl_of (by kernel_rfl) rfl (utf_Scalar_run n a) rfl
theorem ref_Scalar_cl {n : Nat} (h : 1 ≤ n) (a : Int) (S : Store) : cl n f_scarfref02_Scalar [i64 a] S = some (bl (scalar a), S) := by
  obtain ⟨n, rfl⟩ : ∃ k, n = k + 1 := ⟨n - 1, by omega⟩
  exact cl_of (by kernel_rfl) rfl (ref_Scalar_run n a) rfl
theorem parts_1_cl {n : Nat} (h : 2 ≤ n) (a : Int) (S : Store) : cl n f_value_parts_1 [i64 a] S = some (bl (!scalar a), S) := by
  obtain ⟨n, rfl⟩ : ∃ k, n = k + 1 := ⟨n - 1, by omega⟩
  exact cl_of (by kernel_rfl) rfl (Ret.eq (vc_value_parts_1 n a _ ⟨_, utf_Scalar_cl (by omega) a _, rfl, rfl⟩)) rfl

theorem agg_int : agg? prog t_int = some false := by kernel_rfl
theorem agg_string : agg? prog t_string = some false := by kernel_rfl
theorem agg_Type : agg? prog t_api_Type = some true := by kernel_rfl
theorem size_Type : size? prog t_api_Type = some 4 := by kernel_rfl
theorem agg_Val : agg? prog t_api_Val = some true := by kernel_rfl
theorem size_Val : size? prog t_api_Val = some 3 := by kernel_rfl
theorem under_string : prog.underlying t_string = some .string := by kernel_rfl

/-- An index into a list of as many cells each. -/
theorem idx_ok {n k len : Nat} {i : Nat} (hi : i < n) (hl : len = n * k) (hk : 0 < k) : (0 : Int) ≤ (i : Int) ∧ (i : Int) < ((n : Nat) : Int) ∧ Int.toNat (i : Int) * k < len := by
  refine ⟨by omega, by omega, ?_⟩
  rw [hl, Int.toNat_natCast]
  exact Nat.mul_lt_mul_of_lt_of_le hi (Nat.le_refl _) hk

/-! ### slices.IndexFunc, slices.ContainsFunc: any that is no scalar -/
theorem IndexFunc_lp (n : Nat) (u : Bool) (l : List Int) (hn : 2 ≤ n) (hb : l.length ≤ 1000000) (Q : PV → Store → Prop) : ∀ (r : List Int) (i m : Nat), l.drop i = r → r.length < m →
    (∀ z, decide (0 ≤ z) = (r.any fun p => !scalar p) → Q (i64 z) S0) → L_slices_IndexFunc_sl_int_int_0 n m u l.length (l.map i64) (i : Int) Q
  | [], i, m, hd, hm, hQ => by
    obtain ⟨m, rfl⟩ : ∃ k, m = k + 1 := ⟨m - 1, by omega⟩
    have := drop_len hd
    refine lp_slices_IndexFunc_sl_int_int_0 n m u _ _ _ Q (br_dec (fun h => ?_) fun _ => ?_)
    · simp at this; omega
    · exact hQ _ (by simp)
  | x :: r, i, m, hd, hm, hQ => by
    obtain ⟨m, rfl⟩ : ∃ k, m = k + 1 := ⟨m - 1, by omega⟩
    obtain ⟨h1, h2, h3⟩ := drop_get hd
    refine lp_slices_IndexFunc_sl_int_int_0 n m u _ _ _ Q (br_dec (fun h => ?_) fun h => absurd (by omega) h)
    refine ⟨idx_ok h3 (by simp) (by omega), x, ?_, _, parts_1_cl hn x _, br_intro (fun hs => hQ _ ?_) fun hs => ?_⟩
    · rw [Int.toNat_natCast]; exact ld_map agg_int h1
    · simp at hs; simp [hs]
    · rw [wrap64 (by omega)]
      exact IndexFunc_lp n u l hn hb Q r (i + 1) m h2 (by simp at hm; omega) fun z hz => hQ z (by simp at hs; simp [hz, hs])

theorem ContainsFunc_cl {n : Nat} (u : Bool) (l : List Int) (hn : l.length + 10 ≤ n) (hb : l.length ≤ 1000000) (S : Store) :
    cl n f_slices_ContainsFunc_sl_int_int [.sl u l.length (l.map i64), .fn (.func f_value_parts_1) [] []] S = some (bl (l.any fun p => !scalar p), S) := by
  obtain ⟨n, rfl⟩ : ∃ k, n = k + 1 + 1 := ⟨n - 2, by omega⟩
  refine cl_of (by kernel_rfl) rfl (Ret.eq (vc_slices_ContainsFunc_sl_int_int (n + 1) u _ _ _ ?_)) rfl
  have h : Ret cfg (n + 1) f_slices_IndexFunc_sl_int_int [.sl u l.length (l.map i64), .fn (.func f_value_parts_1) [] []] S0 fun p T => ∃ z, p = i64 z ∧ T = S0 ∧ decide (0 ≤ z) = (l.any fun p => !scalar p) :=
    vc_slices_IndexFunc_sl_int_int n u _ _ _ (IndexFunc_lp n u l (by omega) hb _ l 0 n rfl (by omega) fun z hz => ⟨z, rfl, rfl, hz⟩)
  obtain ⟨p, T, h1, z, rfl, rfl, hz⟩ := h
  exact ⟨z, cl_of (by kernel_rfl) rfl h1 rfl, by simp [bl, hz, ge_iff_le], rfl⟩
end Go.Proofs.YtmjnfdjhaopeiaaGreatDoor

namespace Go.Proofs.YtmjnfdjhaopeiaaGreatDoor
open Go Go.Pvm
set_option maxRecDepth 100000

theorem kind_cl {n : Nat} (h : 1 ≤ n) (c : UInt8) (S : Store) : cl n f_scarfref10_kind [.s (.int .u8 (c.toNat : Int))] S = some (i64 (kindB c : Int), S) := by
  obtain ⟨n, rfl⟩ : ∃ k, n = k + 1 := ⟨n - 1, by omega⟩
  refine cl_of (by kernel_rfl) rfl (Ret.eq (vc_scarfref10_kind n _ _ ?_)) rfl
  repeat' refine br_dec (fun _ => ?_) (fun _ => ?_)
  all_goals refine ⟨?_, rfl⟩
  all_goals (refine congrArg i64 ?_; unfold kindB)
  all_goals (repeat' split) <;> omega

theorem kindB_45 {c : UInt8} : kindB c = 4 ↔ c.toNat = 45 := by
  unfold kindB
  repeat' split
  all_goals omega

theorem Name_lp (n : Nat) (s : ByteArray) (hn : 1 ≤ n) (h1 : 1 ≤ s.size) (h2 : s.size ≤ 100) (Q : PV → Store → Prop) : ∀ (r : List UInt8) (i m sz : Nat) (new : Bool), i ≤ s.size → s.data.toList.drop i = r → r.length < m → (sz = 0 ∨ sz = 1 ∨ sz = 2) →
    (new = true ↔ (i = 0 ∨ ∃ c, s.data.toList[i - 1]? = some c ∧ c.toNat = 45)) → Q (bl (nameL r new sz)) S0 → L_scarfref10_Name_0 n m s (sz : Int) (i : Int) Q
  | [], i, m, sz, new, hle, hd, hm, hsz, hnew, hQ => by
    obtain ⟨m, rfl⟩ : ∃ k, m = k + 1 := ⟨m - 1, by omega⟩
    have hl := drop_len hd
    have hlen : s.data.toList.length = s.size := by simp
    simp only [List.length_nil, hlen] at hl
    refine lp_scarfref10_Name_0 n m s _ _ Q (br_dec (fun h => absurd h (by omega)) fun _ => ?_)
    have hlt : s.size - 1 < s.data.toList.length := by rw [hlen]; omega
    have hc := List.getElem?_eq_getElem hlt
    refine ⟨((s.data.toList[s.size - 1]'hlt).toNat : Int), ?_, ?_⟩
    · rw [wrap64 (by omega), show (s.size : Int) - 1 = ((s.size - 1 : Nat) : Int) by omega]
      exact idx_str under_string hc
    · have : nameL [] new sz = !decide (((s.data.toList[s.size - 1]'hlt).toNat : Int) = 45) := by
        simp only [nameL]
        have e : i = s.size := by omega
        subst e
        congr 1
        rw [Bool.eq_iff_iff, hnew, decide_eq_true_iff]
        constructor
        · rintro (h | ⟨c, h, h'⟩)
          · omega
          · rw [hc] at h; obtain rfl := Option.some.inj h; omega
        · intro h; exact .inr ⟨_, hc, by omega⟩
      rw [← this]; exact hQ
  | c :: r, i, m, sz, new, hle, hd, hm, hsz, hnew, hQ => by
    obtain ⟨m, rfl⟩ : ∃ k, m = k + 1 := ⟨m - 1, by omega⟩
    obtain ⟨g1, g2, g3⟩ := drop_get hd
    have hlen : s.data.toList.length = s.size := by simp
    have hk := kind_cl hn c S0
    have hwr : IntKind.i64.wrap ((i : Int) + 1) = ((i + 1 : Nat) : Int) := by rw [wrap64 (by omega)]; simp
    have hnew' : ∀ k : Nat, (kindB c = 4 ↔ (i + 1 = 0 ∨ ∃ d, s.data.toList[i + 1 - 1]? = some d ∧ d.toNat = 45)) := by
      intro k
      rw [kindB_45]
      simp [g1]
    refine lp_scarfref10_Name_0 n m s _ _ Q (br_dec (fun _ => ?_) fun h => absurd h (by omega))
    refine ⟨_, idx_str under_string g1, _, hk, ?_⟩
    rw [hwr]
    have go : ∀ (sz' : Nat) (new' : Bool), (sz' = 0 ∨ sz' = 1 ∨ sz' = 2) → (new' = true ↔ kindB c = 4) → Q (bl (nameL r new' sz')) S0 → L_scarfref10_Name_0 n m s (sz' : Int) ((i + 1 : Nat) : Int) Q := fun sz' new' h3 h4 h5 =>
      Name_lp n s hn h1 h2 Q r (i + 1) m sz' new' (by omega) g2 (by simp at hm; omega) h3 (h4.trans (hnew' 0)) h5
    have case1 : new = true → br (!(decide ((kindB c : Int) = 1))) (br (!(decide ((kindB c : Int) = 2))) (Q (.s (.bool false)) ⟨[], 0⟩) (L_scarfref10_Name_0 n m s (kindB c : Int) ((i + 1 : Nat) : Int) Q)) (L_scarfref10_Name_0 n m s (kindB c : Int) ((i + 1 : Nat) : Int) Q) := by
      intro hn
      subst hn
      simp only [nameL] at hQ
      refine br_ndec (fun k1 => br_ndec (fun k2 => ?_) fun k2 => ?_) fun k1 => ?_
      · rw [if_neg (by omega)] at hQ; exact hQ
      · rw [if_pos (by omega)] at hQ; exact go _ false (by omega) (by simp; omega) hQ
      · rw [if_pos (by omega)] at hQ; exact go _ false (by omega) (by simp; omega) hQ
    refine br_dec (fun h0 => case1 (hnew.2 (.inl (by omega)))) fun h0 => ?_
    have hi0 : i - 1 < s.data.toList.length := by omega
    have hp := List.getElem?_eq_getElem hi0
    refine ⟨((s.data.toList[i - 1]'hi0).toNat : Int), ?_, br_dec (fun h45 => case1 (hnew.2 (.inr ⟨_, hp, by omega⟩))) fun h45 => ?_⟩
    · rw [wrap64 (by omega), show (i : Int) - 1 = ((i - 1 : Nat) : Int) by omega]
      exact idx_str under_string hp
    have hnf : new = false := by
      cases new with
      | false => rfl
      | true =>
        rcases hnew.1 rfl with h | ⟨d, h, h'⟩
        · omega
        · rw [hp] at h; obtain rfl := Option.some.inj h; omega
    subst hnf
    simp only [nameL] at hQ
    refine br_ndec (fun k1 => br_ndec (fun k2 => br_ndec (fun k3 => ?_) fun k3 => ?_) fun k2 => ?_) fun k1 => ?_
    · rw [if_neg (by omega), if_neg (by omega)] at hQ; exact hQ
    · rw [if_pos (by omega)] at hQ; exact go _ true hsz (by simp; omega) hQ
    · rw [if_neg (by omega), if_pos (by omega)] at hQ; exact go _ false hsz (by simp; omega) hQ
    · rw [if_neg (by omega), if_pos (by omega)] at hQ; exact go _ false hsz (by simp; omega) hQ

theorem ref_Name_cl {n : Nat} (h : 110 ≤ n) (s : ByteArray) (S : Store) : cl n f_scarfref10_Name [.s (.string s)] S = some (bl (nameOk s), S) := by
  obtain ⟨n, rfl⟩ : ∃ k, n = k + 1 := ⟨n - 1, by omega⟩
  refine cl_of (by kernel_rfl) rfl (Ret.eq (vc_scarfref10_Name n s _ ?_)) rfl
  refine br_dec (fun h1 => ⟨?_, rfl⟩) fun h1 => br_dec (fun h2 => ⟨?_, rfl⟩) fun h2 => ?_
  · simp [nameOk]; omega
  · simp [nameOk]; omega
  · have hlen : s.data.toList.length = s.size := by simp
    refine Name_lp n s (by omega) (by omega) (by omega) _ _ 0 n 0 true (by omega) rfl (by simp only [List.drop_zero, hlen]; omega) (.inl rfl) (by simp) ⟨?_, rfl⟩
    unfold nameOk
    simp only [List.drop_zero]
    rw [decide_eq_true (by omega), decide_eq_true (by omega)]; rfl
end Go.Proofs.YtmjnfdjhaopeiaaGreatDoor

namespace Go.Proofs.YtmjnfdjhaopeiaaGreatDoor
open Go Go.Pvm
set_option maxRecDepth 100000

theorem same_comm' (a b : ByteArray) : (a.toList == b.toList) = (b.toList == a.toList) := by
  rw [Bool.eq_iff_iff, beq_iff_eq, beq_iff_eq]; exact ⟨Eq.symm, Eq.symm⟩

/-! ### slices.Index, slices.Contains -/
theorem Index_lp (n : Nat) (u : Bool) (l : List ByteArray) (s : ByteArray) (hb : l.length ≤ 4611686018427387904) (Q : PV → Store → Prop) : ∀ (r : List ByteArray) (i m : Nat), l.drop i = r → r.length < m →
    (∀ z, decide (0 ≤ z) = (r.any fun x => s.toList == x.toList) → Q (i64 z) S0) → L_slices_Index_sl_string_string_0 n m u l.length (l.map str) s (i : Int) Q
  | [], i, m, hd, hm, hQ => by
    obtain ⟨m, rfl⟩ : ∃ k, m = k + 1 := ⟨m - 1, by omega⟩
    have := drop_len hd
    refine lp_slices_Index_sl_string_string_0 n m u _ _ _ _ Q (br_dec (fun h => ?_) fun _ => ?_)
    · simp at this; omega
    · exact hQ _ (by simp)
  | x :: r, i, m, hd, hm, hQ => by
    obtain ⟨m, rfl⟩ : ∃ k, m = k + 1 := ⟨m - 1, by omega⟩
    obtain ⟨h1, h2, h3⟩ := drop_get hd
    refine lp_slices_Index_sl_string_string_0 n m u _ _ _ _ Q (br_dec (fun h => ?_) fun h => absurd (by omega) h)
    refine ⟨idx_ok h3 (by simp) (by omega), x, ?_, br_intro (fun hs => hQ _ ?_) fun hs => ?_⟩
    · rw [Int.toNat_natCast]; exact ld_map agg_string h1
    · simp only [List.any_cons, hs, Bool.true_or]; simp
    · rw [wrap64 (by omega)]
      exact Index_lp n u l s hb Q r (i + 1) m h2 (by simp at hm; omega) fun z hz => hQ z (by simp only [List.any_cons, hs, Bool.false_or]; exact hz)

theorem Contains_cl {n : Nat} (u : Bool) (l : List ByteArray) (s : ByteArray) (hn : l.length + 10 ≤ n) (hb : l.length ≤ 4611686018427387904) (S : Store) :
    cl n f_slices_Contains_sl_string_string [.sl u l.length (l.map str), .s (.string s)] S = some (bl (l.any fun x => s.toList == x.toList), S) := by
  obtain ⟨n, rfl⟩ : ∃ k, n = k + 1 + 1 := ⟨n - 2, by omega⟩
  refine cl_of (by kernel_rfl) rfl (Ret.eq (vc_slices_Contains_sl_string_string (n + 1) u _ _ _ _ ?_)) rfl
  have h : Ret cfg (n + 1) f_slices_Index_sl_string_string [.sl u l.length (l.map str), .s (.string s)] S0 fun p T => ∃ z, p = i64 z ∧ T = S0 ∧ decide (0 ≤ z) = (l.any fun x => s.toList == x.toList) :=
    vc_slices_Index_sl_string_string n u _ _ _ _ (Index_lp n u l s hb _ l 0 n rfl (by omega) fun z hz => ⟨z, rfl, rfl, hz⟩)
  obtain ⟨p, T, h1, z, rfl, rfl, hz⟩ := h
  exact ⟨z, cl_of (by kernel_rfl) rfl h1 rfl, by simp only [ge_iff_le, hz], rfl⟩

/-! ### names that are some, and differ -/
def distR (l : List ByteArray) : List ByteArray → Nat → Bool
  | [], _ => true
  | s :: r, i => nameOk s && (!((l.take i).any fun x => s.toList == x.toList) && distR l r (i + 1))
def distB (l : List ByteArray) (most : Int) : Bool := distR l l 0 && (decide (1 ≤ l.length) && decide ((l.length : Int) ≤ most))

theorem lexName_cl {n : Nat} (h : 1 ≤ n) (s : ByteArray) (S : Store) : cl n f_lex_Name [.s (.string s)] S = some (bl (nameOk s), S) := by
  obtain ⟨n, rfl⟩ : ∃ k, n = k + 1 := ⟨n - 1, by omega⟩
  exact cl_of (by kernel_rfl) rfl rfl rfl

theorem distinct_lp (n : Nat) (u : Bool) (l : List ByteArray) (hn : l.length + 20 ≤ n) (hb : l.length ≤ 4611686018427387904) (Q : PV → Store → Prop) : ∀ (r : List ByteArray) (i m : Nat), l.drop i = r → i ≤ l.length → r.length < m →
    Q (bl (distR l r i && (decide (1 ≤ l.length) && decide ((l.length : Int) ≤ 64)))) S0 → L_ctype_distinct_0 n m u l.length (l.map str) (i : Int) Q
  | [], i, m, hd, hle, hm, hQ => by
    obtain ⟨m, rfl⟩ : ∃ k, m = k + 1 := ⟨m - 1, by omega⟩
    have := drop_len hd
    refine lp_ctype_distinct_0 n m u _ _ _ Q (br_dec (fun h => ?_) fun _ => br_dec (fun h => ?_) fun h => ?_)
    · simp at this; omega
    · simp only [distR, Bool.true_and] at hQ; rw [decide_eq_true (by omega), Bool.true_and] at hQ; exact hQ
    · simp only [distR, Bool.true_and] at hQ; rw [decide_eq_false (by omega), Bool.false_and] at hQ; exact hQ
  | s :: r, i, m, hd, hle, hm, hQ => by
    obtain ⟨m, rfl⟩ : ∃ k, m = k + 1 := ⟨m - 1, by omega⟩
    obtain ⟨h1, h2, h3⟩ := drop_get hd
    refine lp_ctype_distinct_0 n m u _ _ _ Q (br_dec (fun h => ?_) fun h => absurd (by omega) h)
    refine ⟨idx_ok h3 (by simp) (by omega), s, ?_, _, lexName_cl (by omega) s _, br_intro (fun hs => ?_) fun hs => ?_⟩
    · rw [Int.toNat_natCast]; exact ld_map agg_string h1
    · have : nameOk s = false := by simpa using hs
      simp only [distR, this, Bool.false_and] at hQ; exact hQ
    · have e1 : nameOk s = true := by simpa using hs
      have hc := Contains_cl (u && (i == l.length)) (l.take i) s (n := n) (by simp; omega) (by simp; omega) S0
      refine ⟨⟨rfl, by omega, rfl, by omega, by omega, by omega, by simp⟩, ((l.take i).any fun x => s.toList == x.toList), ?_, br_intro (fun hk => ?_) fun hk => ?_⟩
      · simp only [Int.toNat_natCast, List.drop_zero, Nat.sub_zero, Nat.mul_one, ← List.map_take]
        rw [List.length_take, Nat.min_eq_left hle] at hc
        exact hc
      · simp only [distR, hk, Bool.not_true, Bool.false_and, Bool.and_false] at hQ; exact hQ
      · rw [wrap64 (by omega)]
        refine distinct_lp n u l hn hb Q r (i + 1) m h2 h3 (by simp at hm; omega) ?_
        simp only [distR, e1, hk, Bool.not_false, Bool.true_and] at hQ; exact hQ

theorem distinct_cl {n : Nat} (u : Bool) (l : List ByteArray) (hn : l.length + 30 ≤ n) (hb : l.length ≤ 4611686018427387904) (S : Store) :
    cl n f_ctype_distinct [.sl u l.length (l.map str)] S = some (bl (distB l 64), S) := by
  obtain ⟨n, rfl⟩ : ∃ k, n = k + 1 := ⟨n - 1, by omega⟩
  exact cl_of (by kernel_rfl) rfl (Ret.eq (vc_ctype_distinct n u _ _ _ (distinct_lp n u l (by omega) hb _ l 0 n rfl (by omega) (by omega) ⟨rfl, rfl⟩))) rfl

theorem names_lp1 (n : Nat) (u : Bool) (l : List ByteArray) (most : Int) (i m0 : Nat) (s : ByteArray) (hs : l[i]? = some s) (hb : l.length ≤ 4611686018427387904) (Q : PV → Store → Prop) : ∀ (r : List ByteArray) (k m : Nat), (l.take i).drop k = r → k ≤ i → r.length < m →
    (if (r.any fun x => s.toList == x.toList) then Q (bl false) S0 else ∀ x, L_scarfref13_names_0 n m0 u l.length (l.map str) most ((i + 1 : Nat) : Int) x Q) → L_scarfref13_names_1 n m m0 u l.length (l.map str) most (i : Int) (k : Int) Q
  | [], k, m, hd, hle, hm, hQ => by
    obtain ⟨m, rfl⟩ : ∃ k, m = k + 1 := ⟨m - 1, by omega⟩
    have hi := (List.getElem?_eq_some_iff.1 hs).1
    have := drop_len hd
    rw [List.length_take, Nat.min_eq_left (by omega), List.length_nil] at this
    refine lp_scarfref13_names_1 n m m0 u _ _ _ _ _ Q (br_dec (fun h => absurd h (by omega)) fun _ => ?_)
    rw [wrap64 (by omega)]
    simpa using hQ _
  | x :: r, k, m, hd, hle, hm, hQ => by
    obtain ⟨m, rfl⟩ : ∃ k, m = k + 1 := ⟨m - 1, by omega⟩
    have hi := (List.getElem?_eq_some_iff.1 hs).1
    obtain ⟨h1, h2, h3⟩ := drop_get hd
    rw [List.length_take, Nat.min_eq_left (by omega)] at h3
    rw [List.getElem?_take_of_lt h3] at h1
    refine lp_scarfref13_names_1 n m m0 u _ _ _ _ _ Q (br_dec (fun h => ?_) fun h => absurd (by omega) h)
    refine ⟨idx_ok (by omega) (by simp) (by omega), x, ?_, idx_ok hi (by simp) (by omega), s, ?_, br_intro (fun hx => ?_) fun hx => ?_⟩
    · rw [Int.toNat_natCast]; exact ld_map agg_string h1
    · rw [Int.toNat_natCast]; exact ld_map agg_string hs
    · rw [same_comm'] at hx
      simp only [List.any_cons, hx, Bool.true_or, if_true] at hQ; exact hQ
    · rw [wrap64 (by omega)]
      refine names_lp1 n u l most i m0 s hs hb Q r (k + 1) m h2 (by omega) (by simp at hm; omega) ?_
      rw [same_comm'] at hx
      simp only [List.any_cons, hx, Bool.false_or] at hQ; exact hQ

theorem names_lp0 (n : Nat) (u : Bool) (l : List ByteArray) (most : Int) (hn : l.length + 120 ≤ n) (hb : l.length ≤ 4611686018427387904) (Q : PV → Store → Prop) : ∀ (r : List ByteArray) (i m : Nat) (x : RV), l.drop i = r → i ≤ l.length → r.length < m →
    Q (bl (distR l r i && (decide (1 ≤ l.length) && decide ((l.length : Int) ≤ most)))) S0 → L_scarfref13_names_0 n m u l.length (l.map str) most (i : Int) x Q
  | [], i, m, x, hd, hle, hm, hQ => by
    obtain ⟨m, rfl⟩ : ∃ k, m = k + 1 := ⟨m - 1, by omega⟩
    have := drop_len hd
    refine lp_scarfref13_names_0 n m u _ _ _ _ _ Q (br_dec (fun h => ?_) fun _ => br_dec (fun h => ?_) fun h => ?_)
    · simp at this; omega
    · simp only [distR, Bool.true_and] at hQ; rw [decide_eq_true (by omega), Bool.true_and] at hQ; exact hQ
    · simp only [distR, Bool.true_and] at hQ; rw [decide_eq_false (by omega), Bool.false_and] at hQ; exact hQ
  | s :: r, i, m, x, hd, hle, hm, hQ => by
    obtain ⟨m, rfl⟩ : ∃ k, m = k + 1 := ⟨m - 1, by omega⟩
    obtain ⟨h1, h2, h3⟩ := drop_get hd
    refine lp_scarfref13_names_0 n m u _ _ _ _ _ Q (br_dec (fun h => ?_) fun h => absurd (by omega) h)
    refine ⟨idx_ok h3 (by simp) (by omega), s, ?_, _, ref_Name_cl (by omega) s _, br_intro (fun hs => ?_) fun hs => ?_⟩
    · rw [Int.toNat_natCast]; exact ld_map agg_string h1
    · have : nameOk s = false := by simpa using hs
      simp only [distR, this, Bool.false_and] at hQ; exact hQ
    · have e1 : nameOk s = true := by simpa using hs
      refine names_lp1 n u l most i m s h1 hb Q (l.take i) 0 n rfl (by omega) (by simp; omega) ?_
      split
      · rename_i hk
        simp only [distR, hk, Bool.not_true, Bool.false_and, Bool.and_false] at hQ; exact hQ
      · rename_i hk
        intro y
        refine names_lp0 n u l most hn hb Q r (i + 1) m y h2 h3 (by simp at hm; omega) ?_
        have hk' : ((l.take i).any fun x => s.toList == x.toList) = false := by simpa using hk
        simp only [distR, e1, hk', Bool.not_false, Bool.true_and] at hQ; exact hQ

theorem names_cl {n : Nat} (u : Bool) (l : List ByteArray) (most : Int) (hn : l.length + 130 ≤ n) (hb : l.length ≤ 4611686018427387904) (S : Store) :
    cl n f_scarfref13_names [.sl u l.length (l.map str), i64 most] S = some (bl (distB l most), S) := by
  obtain ⟨n, rfl⟩ : ∃ k, n = k + 1 := ⟨n - 1, by omega⟩
  exact cl_of (by kernel_rfl) rfl (Ret.eq (vc_scarfref13_names n u _ _ _ _ (names_lp0 n u l most (by omega) hb _ l 0 n _ rfl (by omega) (by omega) ⟨rfl, rfl⟩))) rfl
end Go.Proofs.YtmjnfdjhaopeiaaGreatDoor
