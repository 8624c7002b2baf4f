/-
  A part of the proof: Z10, Z11, Z12, Z13.
-/
import Derived.Test.YtmjnfdjhaopeiaaGreatDoorZC
import Derived.Test.YtmjnfdjhaopeiaaGreatDoorPzA
namespace Go.Proofs.YtmjnfdjhaopeiaaGreatDoor
open Go Go.Pvm
set_option maxRecDepth 100000

/-- From where to where numbers of a kind go. -/
def rng (K : Int) : Option (Int × Int) :=
  if K = 1 then some (0, 1) else if K = 2 then some (-128, 127) else if K = 3 then some (0, 255) else if K = 4 then some (-32768, 32767) else if K = 5 then some (0, 65535)
  else if K = 6 then some (-2147483648, 2147483647) else if K = 7 ∨ K = 20 ∨ K = 21 then some (0, 4294967295) else if K = 8 ∨ K = 9 then some (-9223372036854775808, 9223372036854775807) else none
def spanP (r : Option (Int × Int)) : PV := match r with
  | some (a, b) => .tup [i64 a, i64 b, bl true]
  | none => .tup [i64 0, i64 0, bl false]

theorem span_cl {n : Nat} (h : 1 ≤ n) (K : Int) (S : Store) : cl n f_value_span [i64 K] S = some (spanP (rng K), S) := by
  obtain ⟨n, rfl⟩ : ∃ k, n = k + 1 := ⟨n - 1, by omega⟩
  refine cl_of (by kernel_rfl) rfl (Ret.eq (vc_value_span n K _ ?_)) (by cases rng K <;> rfl)
  repeat' with_reducible refine br_dec (fun h => ?_) (fun _ => ?_)
  all_goals refine ⟨?_, rfl⟩
  all_goals first | (subst h; rfl) | skip
  unfold rng
  repeat rw [if_neg (by omega)]
  rfl

/-- As the reference has it: 0: the kind is none; 1: no; 2: yes. -/
def wholeI (K N : Int) : Int := match rng K with
  | some (a, b) => if a ≤ N ∧ N ≤ b then 2 else 1
  | none => 0

def bitsL : List Int := [0, 1, 8, 8, 16, 16, 32, 32, 64, 64]

theorem whole_lp (n : Nat) (K : Nat) (b : Nat) (N : Int) (hb : bitsL[K]? = some (b : Int)) (hlt : b ≤ 32) (Q : PV → Store → Prop) : ∀ (j i m : Nat), i + j = b → j < m →
    Q (i64 (if (K = 2 ∨ K = 4 ∨ K = 6) then (if -((2 : Int) ^ b / 2) ≤ N ∧ N < (2 : Int) ^ b / 2 then 2 else 1) else (if 0 ≤ N ∧ N < (2 : Int) ^ b then 2 else 1))) S0 →
    L_scarfref15_whole_0 n m N (K : Int) ((2 : Int) ^ i) (i : Int) Q := by
  have hK := (List.getElem?_eq_some_iff.1 hb).1
  have hK' : K < 10 := hK
  have hi : (0 : Int) ≤ (K : Int) ∧ (K : Int) < ((10 : Nat) : Int) ∧ Int.toNat (K : Int) * 1 < ([i64 (0), i64 (1), i64 (8), i64 (8), i64 (16), i64 (16), i64 (32), i64 (32), i64 (64), i64 (64)] : List PV).length := ⟨by omega, by omega, by simp; omega⟩
  have hx : ld prog t_int [i64 (0), i64 (1), i64 (8), i64 (8), i64 (16), i64 (16), i64 (32), i64 (32), i64 (64), i64 (64)] (Int.toNat (K : Int) * 1) (i64 (b : Int)) := by
    rw [Int.toNat_natCast]; exact ld_map (f := i64) (l := bitsL) agg_int hb
  have hpow : ∀ i : Nat, i ≤ 32 → (1 : Int) ≤ 2 ^ i ∧ (2 : Int) ^ i ≤ 4294967296 := by
    intro i hi
    have h1 : (2 : Nat) ^ i ≤ 2 ^ 32 := Nat.pow_le_pow_right (by omega) hi
    have h2 : 1 ≤ (2 : Nat) ^ i := Nat.one_le_two_pow
    have h3 : ((2 : Nat) ^ i : Int) = ((2 ^ i : Nat) : Int) := by simp
    have : (2 : Int) ^ i = ((2 ^ i : Nat) : Int) := by simp
    rw [this]; omega
  intro j
  induction j with
  | zero =>
    intro i m h1 hm hQ
    obtain ⟨m, rfl⟩ : ∃ k, m = k + 1 := ⟨m - 1, by omega⟩
    obtain rfl : i = b := by omega
    have hp := hpow i hlt
    have e0 : IntKind.i64.wrap (0 - (2 : Int) ^ i) = -(2 : Int) ^ i := by rw [wrap64 (by omega)]; omega
    have e1 : IntKind.i64.wrap (Int.tdiv ((2 : Int) ^ i) 2) = (2 : Int) ^ i / 2 := by rw [Int.tdiv_eq_ediv_of_nonneg (by omega), wrap64 (by omega)]
    have e2 : IntKind.i64.wrap (Int.tdiv (-(2 : Int) ^ i) 2) = -((2 : Int) ^ i / 2) := by rw [Int.neg_tdiv, Int.tdiv_eq_ediv_of_nonneg (by omega), wrap64 (by omega)]
    refine lp_scarfref15_whole_0 n m N _ _ _ Q ⟨hi, _, hx, br_dec (fun h => absurd h (by omega)) fun _ => ?_⟩
    rw [e0, e1, e2]
    generalize (2 : Int) ^ i = p at *
    have fin : ∀ z : Int, z = (if (K = 2 ∨ K = 4 ∨ K = 6) then (if -(p / 2) ≤ N ∧ N < p / 2 then 2 else 1) else (if 0 ≤ N ∧ N < p then 2 else 1)) → Q (i64 z) ⟨[], 0⟩ := fun z hz => by rw [hz]; exact hQ
    clear hQ hpow hx hi
    repeat' with_reducible refine br_dec (fun _ => ?_) (fun _ => ?_)
    all_goals (refine fin _ ?_; clear fin; grind)
  | succ j ih =>
    intro i m h1 hm hQ
    obtain ⟨m, rfl⟩ : ∃ k, m = k + 1 := ⟨m - 1, by omega⟩
    have hp := hpow i (by omega)
    have e0 : IntKind.i64.wrap ((2 : Int) ^ i * 2) = (2 : Int) ^ (i + 1) := by rw [wrap64 (by omega), Int.pow_succ]
    have e1 : IntKind.i64.wrap ((i : Int) + 1) = ((i + 1 : Nat) : Int) := by rw [wrap64 (by omega)]; simp
    refine lp_scarfref15_whole_0 n m N _ _ _ Q ⟨hi, _, hx, br_dec (fun _ => ?_) fun h => absurd (by omega) h⟩
    rw [e0, e1]
    exact ih (i + 1) m (by omega) (by omega) hQ

theorem whole_cl {n : Nat} (h : 100 ≤ n) (K N : Int) (hN : -9223372036854775808 ≤ N ∧ N ≤ 9223372036854775807) (S : Store) : cl n f_scarfref15_whole [i64 K, i64 N] S = some (i64 (wholeI K N), S) := by
  obtain ⟨n, rfl⟩ : ∃ k, n = k + 1 := ⟨n - 1, by omega⟩
  refine cl_of (by kernel_rfl) rfl (Ret.eq ?_) rfl
  have hi7 : ((0 : Int) ≤ (7) ∧ (7) < ((10 : Nat) : Int) ∧ Int.toNat (7) * 1 < ([i64 (0), i64 (1), i64 (8), i64 (8), i64 (16), i64 (16), i64 (32), i64 (32), i64 (64), i64 (64)] : List PV).length) := ⟨by omega, by omega, by decide⟩
  have hx7 : ld prog t_int [i64 (0), i64 (1), i64 (8), i64 (8), i64 (16), i64 (16), i64 (32), i64 (32), i64 (64), i64 (64)] 7 (i64 32) := ld_one agg_int rfl
  have l7 : ∀ Q : PV → Store → Prop, Q (i64 (if 0 ≤ N ∧ N < 4294967296 then 2 else 1)) S0 → L_scarfref15_whole_0 n n N 7 1 0 Q := fun Q hQ => whole_lp n 7 32 N rfl (by omega) Q 32 0 n rfl (by omega) (by simpa using hQ)
  refine vc_scarfref15_whole n K N _ ?_
  refine br_dec (fun k => ⟨hi7, _, hx7, br_dec (fun h => absurd h (by decide)) fun _ => l7 _ ⟨?_, rfl⟩⟩) fun k1 => br_dec (fun k => ⟨hi7, _, hx7, br_dec (fun h => absurd h (by decide)) fun _ => l7 _ ⟨?_, rfl⟩⟩) fun k2 => br_dec (fun k => ⟨?_, rfl⟩) fun k3 => br_dec (fun k => ⟨?_, rfl⟩) fun k4 => ?_
  · subst k; simp only [wholeI, rng]; simp; grind
  · subst k; simp only [wholeI, rng]; simp; grind
  · have : rng K = none := by unfold rng; repeat rw [if_neg (by omega)]
    simp [wholeI, this]
  · have : rng K = none := by unfold rng; repeat rw [if_neg (by omega)]
    simp [wholeI, this]
  · obtain ⟨k, rfl⟩ : ∃ k : Nat, K = k := ⟨K.toNat, by omega⟩
    have hk : k < bitsL.length := by show k < 10; omega
    have hb := List.getElem?_eq_getElem hk
    refine ⟨⟨by omega, by omega, by simp; omega⟩, bitsL[k], ?_, br_dec (fun h => ⟨?_, rfl⟩) fun h => ?_⟩
    · rw [Int.toNat_natCast]; exact ld_map (f := i64) (l := bitsL) agg_int hb
    · have : k = 8 ∨ k = 9 := by
        have hk' : k = 1 ∨ k = 2 ∨ k = 3 ∨ k = 4 ∨ k = 5 ∨ k = 6 ∨ k = 7 ∨ k = 8 ∨ k = 9 := by omega
        rcases hk' with rfl | rfl | rfl | rfl | rfl | rfl | rfl | rfl | rfl <;> simp [bitsL] at h ⊢
      rcases this with rfl | rfl
      · simp only [wholeI, rng]; simp; omega
      · simp only [wholeI, rng]; simp; omega
    · have hk' : k = 1 ∨ k = 2 ∨ k = 3 ∨ k = 4 ∨ k = 5 ∨ k = 6 ∨ k = 7 ∨ k = 8 ∨ k = 9 := by omega
      rcases hk' with rfl | rfl | rfl | rfl | rfl | rfl | rfl | rfl | rfl
      · refine whole_lp n 1 1 N rfl (by omega) _ 1 0 n rfl (by omega) ⟨?_, rfl⟩
        simp only [wholeI, rng]; simp; grind
      · refine whole_lp n 2 8 N rfl (by omega) _ 8 0 n rfl (by omega) ⟨?_, rfl⟩
        simp only [wholeI, rng]; simp; grind
      · refine whole_lp n 3 8 N rfl (by omega) _ 8 0 n rfl (by omega) ⟨?_, rfl⟩
        simp only [wholeI, rng]; simp; grind
      · refine whole_lp n 4 16 N rfl (by omega) _ 16 0 n rfl (by omega) ⟨?_, rfl⟩
        simp only [wholeI, rng]; simp; grind
      · refine whole_lp n 5 16 N rfl (by omega) _ 16 0 n rfl (by omega) ⟨?_, rfl⟩
        simp only [wholeI, rng]; simp; grind
      · refine whole_lp n 6 32 N rfl (by omega) _ 32 0 n rfl (by omega) ⟨?_, rfl⟩
        simp only [wholeI, rng]; simp; grind
      · refine whole_lp n 7 32 N rfl (by omega) _ 32 0 n rfl (by omega) ⟨?_, rfl⟩
        simp only [wholeI, rng]; simp; grind
      · simp [bitsL] at h
      · simp [bitsL] at h
end Go.Proofs.YtmjnfdjhaopeiaaGreatDoor

namespace Go.Proofs.YtmjnfdjhaopeiaaGreatDoor
open Go Go.Pvm
set_option maxRecDepth 100000

/-! ### closed runs: small numbers' texts, products -/
def strQ : Option (PV × Store) → Bool
  | some (.s (.string _), ⟨[], 0⟩) => true
  | _ => false
theorem strQ_elim {r : Option (PV × Store)} (h : strQ r = true) : ∃ s, r = some (str s, S0) := by
  unfold strQ at h
  split at h
  · exact ⟨_, rfl⟩
  · cases h
def txtQ : Option (PV × Store) → Bool
  | some (.s (.string _), _) => true
  | _ => false
theorem txtQ_elim {r : Option (PV × Store)} (h : txtQ r = true) : ∃ s T, r = some (str s, T) := by
  unfold txtQ at h
  split at h
  · exact ⟨_, _, rfl⟩
  · cases h
theorem itoa_all (n : Nat) : ((List.range 64).all fun i => txtQ (run cfg (n + 60) f_strconv_Itoa [i64 ((i : Nat) : Int)] S0)) = true := by kernel_rfl
theorem Itoa_cl {n : Nat} (hn : 60 ≤ n) (i : Nat) (hi : i < 64) (S : Store) : ∃ s, cl n f_strconv_Itoa [i64 (i : Int)] S = some (str s, S) := by
  obtain ⟨n, rfl⟩ : ∃ k, n = k + 60 := ⟨n - 60, by omega⟩
  have h := List.all_eq_true.1 (itoa_all n) i (by simp [hi])
  obtain ⟨s, T, hs⟩ := txtQ_elim h
  exact ⟨s, cl_frz (by kernel_rfl) rfl hs rfl⟩

def mulHi (a0 a1 : Int) : Int := (IntKind.u64.wrap ((IntKind.u64.wrap ((IntKind.u64.wrap ((Int.fdiv a0 (2 ^ 32)) * (Int.fdiv a1 (2 ^ 32)))) + (Int.fdiv (IntKind.u64.wrap ((IntKind.u64.wrap ((Int.fdiv a0 (2 ^ 32)) * (bits .and .u64 a1 (4294967295)))) + (Int.fdiv (IntKind.u64.wrap ((bits .and .u64 a0 (4294967295)) * (bits .and .u64 a1 (4294967295)))) (2 ^ 32)))) (2 ^ 32)))) + (Int.fdiv (IntKind.u64.wrap ((bits .and .u64 (IntKind.u64.wrap ((IntKind.u64.wrap ((Int.fdiv a0 (2 ^ 32)) * (bits .and .u64 a1 (4294967295)))) + (Int.fdiv (IntKind.u64.wrap ((bits .and .u64 a0 (4294967295)) * (bits .and .u64 a1 (4294967295)))) (2 ^ 32)))) (4294967295)) + (IntKind.u64.wrap ((bits .and .u64 a0 (4294967295)) * (Int.fdiv a1 (2 ^ 32)))))) (2 ^ 32))))
theorem mulHi_all : ((List.range 1001).all fun c => decide (mulHi 1 ((c : Nat) : Int) = 0)) = true := by kernel_rfl
theorem Mul_cl {n : Nat} (hn : 10 ≤ n) (c : Nat) (hc : c ≤ 1000) (S : Store) : cl n f_math_bits_Mul [.s (.int .u64 1), .s (.int .u64 (c : Int))] S = some (.tup [.s (.int .u64 0), .s (.int .u64 (c : Int))], S) := by
  obtain ⟨n, rfl⟩ : ∃ k, n = k + 1 + 1 := ⟨n - 2, by omega⟩
  have h := List.all_eq_true.1 mulHi_all c (by simp; omega)
  simp only [decide_eq_true_eq] at h
  have hw : IntKind.u64.wrap (1 * (c : Int)) = c := by rw [IntWalk.u64_in _ (by omega)]; omega
  have h1 : Ret cfg (n + 1) f_math_bits_Mul64 [.s (.int .u64 1), .s (.int .u64 (c : Int))] S0 fun p T => p = .tup [.s (.int .u64 0), .s (.int .u64 (c : Int))] ∧ T = S0 :=
    vc_math_bits_Mul64 n 1 c _ ⟨by rw [hw]; show PV.tup [.s (.int .u64 (mulHi 1 c)), _] = _; rw [h], rfl⟩
  have h2 := cl_of (C := cfg) (by kernel_rfl) rfl h1.eq (S := S0) rfl
  exact cl_of (by kernel_rfl) rfl (Ret.eq (vc_math_bits_Mul (n + 1) 1 c _ ⟨_, _, h2, rfl, rfl⟩)) rfl
end Go.Proofs.YtmjnfdjhaopeiaaGreatDoor

namespace Go.Proofs.YtmjnfdjhaopeiaaGreatDoor
open Go Go.Pvm
set_option maxRecDepth 100000

theorem CloneS_cl {n : Nat} (h : 1 ≤ n) (u : Bool) (l : List ByteArray) (hl : l.length ≤ 1000000) (S : Store) : cl n f_slices_Clone_sl_string_string [.sl u l.length (l.map str)] S = some (.sl false l.length (l.map str), S) := by
  obtain ⟨n, rfl⟩ : ∃ k, n = k + 1 := ⟨n - 1, by omega⟩
  refine cl_of (by kernel_rfl) rfl ?_ rfl
  show cloneI 1 [.sl u l.length (l.map str)] S0 = _
  unfold cloneI
  simp only
  rw [if_pos ⟨by simp, strs_oneC l, hl⟩]
theorem CloneT_cl {n : Nat} (h : 1 ≤ n) (u : Bool) (l : List Tt) (hl : l.length ≤ 1000000) (S : Store) : cl n f_slices_Clone_sl_api_Type_api_Type [.sl u l.length (tcells l)] S = some (.sl false l.length (tcells l), S) := by
  obtain ⟨n, rfl⟩ : ∃ k, n = k + 1 := ⟨n - 1, by omega⟩
  refine cl_of (by kernel_rfl) rfl ?_ rfl
  show cloneI 4 [.sl u l.length (tcells l)] S0 = _
  unfold cloneI
  simp only
  rw [if_pos ⟨tcells_length l, tcells_oneC l, hl⟩]

/-! ### Plain -/
def plK (t : Tt) : Int := if t.K = 14 then 13 else if t.K = 16 ∨ t.K = 17 ∨ t.K = 18 then 15 else t.K
def pl (t : Tt) : List Tt := if t.K = 16 then List.replicate t.nm.length zeroT else if t.K = 17 then zeroT :: t.l else t.l

theorem take_cells (l : List Tt) (i : Nat) (hi : i ≤ l.length) : List.take (i * 4) (tcells (l.take i)) = tcells (l.take i) :=
  List.take_of_length_le (by rw [tcells_length, List.length_take]; omega)
theorem take_snoc {l : List Tt} {i : Nat} {x : Tt} (h : l[i]? = some x) : tcells (l.take i) ++ x.cells = tcells (l.take (i + 1)) := by
  rw [List.take_add_one, h, tcells_append]; simp [tcells_one]

theorem Plain_lp1 (n : Nat) (ul : Bool) (l : List Tt) (hn : 60 ≤ n) (hl : l.length ≤ 64) (Q : PV → Store → Prop)
    (hQ : ∀ (ver : Nat) (ns : List ByteArray), ns.length = l.length → Q (.agg [i64 13, .bsl 0 ver 0 l.length, .bsl 1 ver 0 l.length, i64 0]) ⟨[(1, ⟨ver, 4, tcells l⟩), (0, ⟨ver, 1, ns.map str⟩)], 2⟩) :
    ∀ (r : List Tt) (i m ver : Nat) (ns : List ByteArray), l.drop i = r → i ≤ l.length → ns.length = i → r.length < m → L_ctype_Plain_1 n m ul l.length (tcells l) (i : Int) ver i (tcells (l.take i)) (ns.map str) Q
  | [], i, m, ver, ns, hd, hle, hns, hm => by
    obtain ⟨m, rfl⟩ : ∃ k, m = k + 1 := ⟨m - 1, by omega⟩
    have := drop_len hd
    simp only [List.length_nil] at this
    have e : i = l.length := by omega
    subst e
    refine lp_ctype_Plain_1 n m ul _ _ _ ver _ _ _ Q (br_dec (fun h => absurd h (by omega)) fun _ => ?_)
    rw [List.take_length]
    exact hQ ver ns hns
  | x :: r, i, m, ver, ns, hd, hle, hns, hm => by
    obtain ⟨m, rfl⟩ : ∃ k, m = k + 1 := ⟨m - 1, by omega⟩
    obtain ⟨h1, h2, h3⟩ := drop_get hd
    have hx := ld_T h1
    have hi := idx_ok h3 (tcells_len l) (k := 4) (by omega)
    obtain ⟨s, hs⟩ := Itoa_cl hn i (by omega) ⟨[(1, ⟨ver, 4, tcells (l.take i)⟩), (0, ⟨ver, 1, ns.map str⟩)], 2⟩
    have e1 : IntKind.i64.wrap ((i : Int) + 1) = ((i + 1 : Nat) : Int) := by rw [wrap64 (by omega)]; simp
    have ih := Plain_lp1 n ul l hn hl Q hQ r (i + 1) m (ver + 1) (ns ++ [s]) h2 h3 (by simp [hns]) (by simp at hm; omega)
    rw [← take_snoc h1] at ih
    refine lp_ctype_Plain_1 n m ul _ _ _ ver _ _ _ Q (br_dec (fun _ => ?_) fun h => absurd (by omega) h)
    rw [e1, take_cells l i hle, List.take_of_length_le (l := ns.map str) (by simp [hns])]
    have c1 := tcells_oneC (l.take i)
    have c2 := strs_oneC ns
    have c3 : i * 4 ≤ (tcells (l.take i)).length := by rw [tcells_length, List.length_take]; omega
    have c4 : i * 1 ≤ (ns.map str).length := by simp [hns]
    have cx := cell_oneC x
    rw [List.map_append] at ih
    obtain ⟨K', un', nm', ul', l', R'⟩ := x
    exact ⟨hi, _, _, _, _, _, _, _, _, hx, _, hs, ⟨rfl, rfl, rfl, rfl, rfl, c4, c2, by omega, by omega⟩, ⟨rfl, cx, rfl, rfl, rfl, c3, c1, by omega, by omega⟩, ih⟩

theorem frz_two {ver k : Nat} {l : List Tt} {ns : List ByteArray} (hk : l.length = k) (hns : ns.length = k) (K : Int) :
    frz ⟨[(1, ⟨ver, 4, tcells l⟩), (0, ⟨ver, 1, ns.map str⟩)], 2⟩ 9 (.agg [i64 K, .bsl 0 ver 0 k, .bsl 1 ver 0 k, i64 0]) = some (.agg [i64 K, .sl false k (ns.map str), .sl false k (tcells l), i64 0]) := by
  have h1 : ∀ j, frz ⟨[(1, ⟨ver, 4, tcells l⟩), (0, ⟨ver, 1, ns.map str⟩)], 2⟩ (j + 2) (.bsl 0 ver 0 k) = some (.sl false k (ns.map str)) := fun j =>
    frz_bsl (bx := ⟨ver, 1, ns.map str⟩) rfl rfl (List.take_of_length_le (by simp [hns])) (by simp [hns]) (strs_solid ns)
  have h2 : ∀ j, frz ⟨[(1, ⟨ver, 4, tcells l⟩), (0, ⟨ver, 1, ns.map str⟩)], 2⟩ (j + 2) (.bsl 1 ver 0 k) = some (.sl false k (tcells l)) := fun j =>
    frz_bsl (bx := ⟨ver, 4, tcells l⟩) rfl rfl (List.take_of_length_le (by simp [tcells_length, hk])) (by simp [tcells_length, hk]) (tcells_solid l)
  show Option.map PV.agg (List.mapM (frz _ 8) _) = _
  simp only [List.mapM_cons, List.mapM_nil, h1 6, h2 6]
  rfl

theorem Plain_cl {n : Nat} (t : Tt) (hn : 100 ≤ n) (h1 : t.nm.length ≤ 64) (h2 : t.l.length ≤ 64) (S : Store) :
    ∃ (u : Bool) (k : Nat) (cs : List PV) (u' : Bool) (R : Int), cl n f_ctype_Plain [.agg t.cells] S = some (.agg [i64 (plK t), .sl u k cs, .sl u' (pl t).length (tcells (pl t)), i64 R], S) := by
  obtain ⟨n, rfl⟩ : ∃ k, n = k + 1 := ⟨n - 1, by omega⟩
  obtain ⟨K, un, nm, ul, l, R⟩ := t
  simp only [Tt.nm, Tt.l] at h1 h2
  have hp : pureL? [.agg (Tt.mk K un nm ul l R).cells] = true := by simp [pureL?, pure?, pure_tcells]
  have key : Ret cfg (n + 1) f_ctype_Plain [.agg (Tt.mk K un nm ul l R).cells] S0 fun p T => ∃ (u : Bool) (k : Nat) (cs : List PV) (u' : Bool) (R' : Int), frz T 9 p = some (.agg [i64 (plK (.mk K un nm ul l R)), .sl u k cs, .sl u' (pl (.mk K un nm ul l R)).length (tcells (pl (.mk K un nm ul l R))), i64 R']) := by
    refine vc_ctype_Plain n K un _ _ ul _ _ R _ ?_
    refine br_dec (fun k => ?_) fun k1 => br_dec (fun k => ?_) fun k2 => br_dec (fun k => ?_) fun k3 => br_dec (fun k => ?_) fun k4 => ?_
    · subst k
      have eK : plK (.mk 14 un nm ul l R) = 13 := rfl
      have el : pl (.mk 14 un nm ul l R) = l := by simp [pl, Tt.K, Tt.l]
      rw [eK, el]
      obtain ⟨m, rfl⟩ : ∃ k, n = k + 1 := ⟨n - 1, by omega⟩
      refine lp_ctype_Plain_0 _ m ul _ _ _ (br_dec (fun h0 => ?_) fun h0 => ?_)
      · cases l with
        | nil => simp at h0
        | cons x r =>
          have hx := ld_T (l := x :: r) (i := 0) rfl
          have hi := idx_ok (n := (x :: r).length) (i := 0) (by simp) (tcells_len (x :: r)) (k := 4) (by omega)
          obtain ⟨s, hs⟩ := Itoa_cl (n := m + 1) (by omega) 0 (by omega) S0
          have cx := cell_oneC x
          have ih := Plain_lp1 (m + 1) ul (x :: r) (by omega) h2 (fun p T => ∃ (u : Bool) (k : Nat) (cs : List PV) (u' : Bool) (R' : Int), frz T 9 p = some (.agg [i64 13, .sl u k cs, .sl u' (x :: r).length (tcells (x :: r)), i64 R']))
            (fun ver ns hns => ⟨_, _, _, _, _, frz_two rfl hns 13⟩) r 1 m 0 [s] rfl (by simp) rfl (by simp at h2 ⊢; omega)
          have e : tcells ((x :: r).take 1) = x.cells := by simp [tcells]
          rw [e] at ih
          obtain ⟨K', un', nm', ul', l', R'⟩ := x
          exact ⟨hi, _, _, _, _, _, _, _, _, hx, _, hs, ⟨rfl, rfl, rfl, rfl, rfl, by omega, by omega, .inl rfl⟩, ⟨rfl, cx, rfl, rfl, rfl, by omega, by omega, .inl rfl⟩, ih⟩
      · have : l = [] := by cases l with | nil => rfl | cons x r => (exfalso; simp at h0; try omega)
        subst this
        exact ⟨_, _, _, _, _, rfl⟩
    · subst k
      have eK : plK (.mk 16 un nm ul l R) = 15 := rfl
      have el : pl (.mk 16 un nm ul l R) = List.replicate nm.length zeroT := by simp [pl, Tt.K, Tt.nm]
      rw [eK, el, List.length_replicate]
      refine ⟨_, _, _, CloneS_cl (by omega) un nm (by omega) _, ⟨by omega, by omega, by omega, by omega⟩, false, nm.length, nm.map str, false, 0, ?_⟩
      rw [Int.toNat_natCast, rep_tcells]
      have h3 : ∀ j, frz ⟨[(0, ⟨0, 4, tcells (List.replicate nm.length zeroT)⟩)], 1⟩ (j + 2) (.bsl 0 0 0 nm.length) = some (.sl false nm.length (tcells (List.replicate nm.length zeroT))) := fun j =>
        frz_bsl (bx := ⟨0, 4, tcells (List.replicate nm.length zeroT)⟩) rfl rfl (List.take_of_length_le (by simp [tcells_length])) (by simp [tcells_length]) (tcells_solid _)
      show Option.map PV.agg (List.mapM (frz _ 8) _) = _
      simp only [List.mapM_cons, List.mapM_nil, h3 6]
      rfl
    · subst k
      have eK : plK (.mk 17 un nm ul l R) = 15 := rfl
      have el : pl (.mk 17 un nm ul l R) = zeroT :: l := by simp [pl, Tt.K, Tt.l]
      rw [eK, el]
      refine ⟨⟨tcells_length l, tcells_oneC l, rfl, rfl, rfl, by decide, rfl, by omega, by omega⟩, true, 2, [.s (.string (ByteArray.mk #[110, 111, 110, 101])), .s (.string (ByteArray.mk #[115, 111, 109, 101]))], false, 0, ?_⟩
      have ec : ([i64 (0), .sl true 0 [], .sl true 0 [], i64 (0)] ++ tcells l) = tcells (zeroT :: l) := rfl
      rw [ec]
      have h3 : ∀ j, frz ⟨[(0, ⟨1, 4, tcells (zeroT :: l)⟩)], 1⟩ (j + 2) (.bsl 0 1 0 (1 + l.length)) = some (.sl false (1 + l.length) (tcells (zeroT :: l))) := fun j =>
        frz_bsl (bx := ⟨1, 4, tcells (zeroT :: l)⟩) rfl rfl (List.take_of_length_le (by rw [tcells_length]; simp; omega)) (by rw [tcells_length]; simp; omega) (tcells_solid _)
      show Option.map PV.agg (List.mapM (frz _ 8) _) = _
      simp only [List.mapM_cons, List.mapM_nil, h3 6]
      rw [List.length_cons, Nat.add_comm 1]
      rfl
    · subst k
      have eK : plK (.mk 18 un nm ul l R) = 15 := rfl
      have el : pl (.mk 18 un nm ul l R) = l := by simp [pl, Tt.K, Tt.l]
      rw [eK, el]
      exact ⟨_, _, _, CloneT_cl (by omega) ul l (by omega) _, _, _, _, _, _, rfl⟩
    · have eK : plK (.mk K un nm ul l R) = K := by simp [plK, Tt.K, k1, k2, k3, k4]
      have el : pl (.mk K un nm ul l R) = l := by simp [pl, Tt.K, Tt.l, k2, k3]
      rw [eK, el]
      exact ⟨_, _, _, _, _, rfl⟩
  obtain ⟨p, T, hr, u, k, cs, u', R', hf⟩ := key
  exact ⟨u, k, cs, u', R', cl_frz (by kernel_rfl) hp hr hf⟩
end Go.Proofs.YtmjnfdjhaopeiaaGreatDoor

namespace Go.Proofs.YtmjnfdjhaopeiaaGreatDoor
open Go Go.Pvm
set_option maxRecDepth 100000

/-! ### slices.Repeat, of one type -/
theorem take_tcells (a b : List Tt) : List.take (a.length * 4) (tcells (a ++ b)) = tcells a := by
  rw [tcells_append, List.take_append_of_le_length (by rw [tcells_length]; omega), List.take_of_length_le (by rw [tcells_length]; omega)]

theorem Repeat_lp (n : Nat) (x : Tt) (c : Nat) (hc : c ≤ 1000) (Q : PV → Store → Prop) (hQ : Q (.bsl 0 0 0 c) ⟨[(0, ⟨0, 4, tcells (List.replicate c x)⟩)], 1⟩) : ∀ (m k : Nat), k ≤ c → (1 ≤ k ∨ c = 0) → c - k < m →
    L_slices_Repeat_sl_api_Type_api_Type_0 n m c (k : Int) (tcells (List.replicate k x ++ List.replicate (c - k) zeroT)) Q
  | 0, k, _, _, hm => by omega
  | m + 1, k, hk, h1, hm => by
    refine lp_slices_Repeat_sl_api_Type_api_Type_0 n m c _ _ Q (br_dec (fun h => ?_) fun h => ?_)
    · have hk1 : 1 ≤ k := by omega
      have e1 : IntKind.i64.wrap ((k : Int) + ((min (k - 0) (c - k) : Nat) : Int)) = ((k + min k (c - k) : Nat) : Int) := by rw [wrap64 (by omega)]; simp
      have hl : (tcells (List.replicate k x ++ List.replicate (c - k) zeroT)).length = c * 4 := by rw [tcells_length]; simp; omega
      have t1 : List.take (k * 4) (tcells (List.replicate k x ++ List.replicate (c - k) zeroT)) = tcells (List.replicate k x) := by
        have := take_tcells (List.replicate k x) (List.replicate (c - k) zeroT)
        simpa using this
      have t2 : List.take (min k (c - k) * 4) (tcells (List.replicate k x)) = tcells (List.replicate (min k (c - k)) x) := by
        have h2 : List.replicate k x = List.replicate (min k (c - k)) x ++ List.replicate (k - min k (c - k)) x := by rw [List.replicate_append_replicate]; congr 1; omega
        have := take_tcells (List.replicate (min k (c - k)) x) (List.replicate (k - min k (c - k)) x)
        rw [← h2] at this
        simpa using this
      have t3 : splice (tcells (List.replicate k x ++ List.replicate (c - k) zeroT)) (k * 4) (tcells (List.replicate (min k (c - k)) x)) = tcells (List.replicate (k + min k (c - k)) x ++ List.replicate (c - (k + min k (c - k))) zeroT) := by
        have := splice_tcells (List.replicate k x) (List.replicate (c - k) zeroT) (List.replicate (min k (c - k)) x) (by simp; omega)
        simp only [List.length_replicate] at this
        rw [this, ← List.append_assoc, List.replicate_append_replicate, List.drop_replicate]
        congr 3; omega
      have ih := Repeat_lp n x c hc Q hQ m (k + min k (c - k)) (by omega) (.inl (by omega)) (by omega)
      rw [← t3, ← t2, ← t1] at ih
      simp only [Int.toNat_natCast, Nat.sub_zero, Nat.zero_add, Nat.zero_mul, List.drop_zero] at e1 ⊢
      rw [e1]
      refine ⟨⟨by omega, trivial, by omega, by omega, trivial, trivial, .inl (by omega)⟩, ⟨trivial, by omega, by omega, by omega, trivial, trivial, .inl (by omega)⟩, ⟨⟨trivial, by rw [hl]; omega⟩, trivial, trivial, by rw [hl]; omega, by rw [t1]; exact tcells_oneC _⟩, ?_⟩
      rw [t1]
      rw [t1] at ih
      exact ih
    · have e : k = c := by omega
      subst e
      rw [Nat.sub_self, List.replicate_zero, List.append_nil]
      exact hQ

theorem Repeat_cl {n : Nat} (hn : 1100 ≤ n) (u : Bool) (x : Tt) (c : Nat) (hc : c ≤ 1000) (S : Store) : cl n f_slices_Repeat_sl_api_Type_api_Type [.sl u 1 (tcells [x]), i64 (c : Int)] S = some (.sl false c (tcells (List.replicate c x)), S) := by
  obtain ⟨n, rfl⟩ : ∃ k, n = k + 1 := ⟨n - 1, by omega⟩
  have key : Ret cfg (n + 1) f_slices_Repeat_sl_api_Type_api_Type [.sl u 1 (tcells [x]), i64 (c : Int)] S0 fun p T => p = .bsl 0 0 0 c ∧ T = ⟨[(0, ⟨0, 4, tcells (List.replicate c x)⟩)], 1⟩ := by
    have hm := Mul_cl (n := n) (by omega) c hc S0
    have w1 : IntKind.u64.wrap ((1 : Nat) : Int) = 1 := by rw [IntWalk.u64_in _ (by omega)]; rfl
    have w2 : IntKind.u64.wrap (c : Int) = c := IntWalk.u64_in _ (by omega)
    have w3 : IntKind.i64.wrap (c : Int) = c := wrap64 (by omega)
    refine vc_slices_Repeat_sl_api_Type_api_Type n u 1 _ _ _ (br_dec (fun h => absurd h (by omega)) fun _ => ?_)
    rw [w1, w2]
    refine ⟨_, _, hm, br_dec (fun h => absurd h (by omega)) fun _ => br_dec (fun h => absurd h (by omega)) fun _ => ?_⟩
    rw [w3, Int.toNat_natCast, rep_tcells]
    refine ⟨⟨by omega, by omega, by omega, by omega⟩, ⟨tcells_length _, rfl, rfl, by rw [tcells_length, List.length_replicate]; omega, tcells_oneC _⟩, ?_⟩
    have e : splice (tcells (List.replicate c zeroT)) 0 (List.take (min 1 c * 4) (tcells [x])) = tcells (List.replicate (min 1 c) x ++ List.replicate (c - min 1 c) zeroT) := by
      have h := splice_tcells [] (List.replicate c zeroT) (List.replicate (min 1 c) x) (by simp; omega)
      simp only [List.nil_append, List.length_nil, Nat.zero_mul, List.length_replicate, List.drop_replicate] at h
      have h2 : List.take (min 1 c * 4) (tcells [x]) = tcells (List.replicate (min 1 c) x) := by
        by_cases hz : c = 0
        · subst hz; simp [tcells]
        · have : min 1 c = 1 := by omega
          rw [this]
          exact List.take_of_length_le (by rw [tcells_length]; simp)
      rw [h2, h]
    rw [e]
    exact Repeat_lp n x c hc _ ⟨rfl, rfl⟩ n (min 1 c) (by omega) (by omega) (by omega)
  obtain ⟨p, T, h1, rfl, rfl⟩ := key
  refine cl_frz (by kernel_rfl) rfl h1 ?_
  exact frz_bsl (k := 7) (bx := ⟨0, 4, tcells (List.replicate c x)⟩) rfl rfl (List.take_of_length_le (by simp [tcells_length])) (by simp [tcells_length]) (tcells_solid _)

/-! ### the reference's Plain, of variants -/
theorem RPlain_lp3 (n : Nat) (K : Int) (un : Bool) (nm : List ByteArray) (ul : Bool) (l : List Tt) (R : Int) (x : RV) (hK : K = 16) (hl : nm.length ≤ 64) (Q : PV → Store → Prop)
    (hQ : ∀ ver : Nat, Q (.agg [i64 15, .sl un nm.length (nm.map str), .bsl 0 ver 0 nm.length, i64 0]) ⟨[(0, ⟨ver, 4, tcells (List.replicate nm.length zeroT)⟩)], 1⟩) :
    ∀ (m i ver : Nat), i ≤ nm.length → nm.length - i < m → L_scarfref13_Plain_3 n m K un nm.length (nm.map str) ul l.length (tcells l) R x (i : Int) ver i (tcells (List.replicate i zeroT)) Q
  | 0, i, ver, _, hm => by omega
  | m + 1, i, ver, hi, hm => by
    subst hK
    refine lp_scarfref13_Plain_3 n m 16 un _ _ ul _ _ R x _ ver _ _ Q (br_dec (fun h => ?_) fun h => br_dec (fun h' => absurd h' (by decide)) fun _ => br_dec (fun h' => absurd h' (by decide)) fun _ => ?_)
    · have e1 : IntKind.i64.wrap ((i : Int) + 1) = ((i + 1 : Nat) : Int) := by rw [wrap64 (by omega)]; simp
      have ih := RPlain_lp3 n 16 un nm ul l R x rfl hl Q hQ m (i + 1) (ver + 1) (by omega) (by omega)
      have t1 : List.take (i * 4) (tcells (List.replicate i zeroT)) = tcells (List.replicate i zeroT) := List.take_of_length_le (by rw [tcells_length]; simp)
      have t2 : tcells (List.replicate i zeroT) ++ [i64 0, .sl true 0 [], .sl true 0 [], i64 0] = tcells (List.replicate (i + 1) zeroT) := by
        rw [List.replicate_succ', tcells_append]; rfl
      rw [e1, t1, t2]
      exact ⟨⟨rfl, rfl, rfl, rfl, rfl, by rw [tcells_length]; simp, tcells_oneC _, by omega, by omega⟩, ih⟩
    · have e : i = nm.length := by omega
      subst e
      exact hQ ver

theorem RPlain_cl {n : Nat} (t : Tt) (hn : 100 ≤ n) (hK : 15 ≤ t.K ∧ t.K ≤ 18) (h1 : t.nm.length ≤ 64) (h2 : t.l.length ≤ 64) (h3 : t.K = 17 → t.l.length = 1) (S : Store) :
    ∃ (K' : Int) (u : Bool) (k : Nat) (cs : List PV) (u' : Bool) (R : Int), cl n f_scarfref13_Plain [.agg t.cells] S = some (.agg [i64 K', .sl u k cs, .sl u' (pl t).length (tcells (pl t)), i64 R], S) := by
  obtain ⟨n, rfl⟩ : ∃ k, n = k + 1 := ⟨n - 1, by omega⟩
  obtain ⟨K, un, nm, ul, l, R⟩ := t
  simp only [Tt.nm, Tt.l, Tt.K] at h1 h2 h3 hK
  have hp : pureL? [.agg (Tt.mk K un nm ul l R).cells] = true := by simp [pureL?, pure?, pure_tcells]
  have key : Ret cfg (n + 1) f_scarfref13_Plain [.agg (Tt.mk K un nm ul l R).cells] S0 fun p T => ∃ (K' : Int) (u : Bool) (k : Nat) (cs : List PV) (u' : Bool) (R' : Int), frz T 9 p = some (.agg [i64 K', .sl u k cs, .sl u' (pl (.mk K un nm ul l R)).length (tcells (pl (.mk K un nm ul l R))), i64 R']) := by
    refine vc_scarfref13_Plain n K un _ _ ul _ _ R _ ?_
    refine br_dec (fun k => absurd k (by omega)) fun k1 => br_dec (fun k => ?_) fun k2 => br_dec (fun k => ?_) fun k3 => br_dec (fun k => ?_) fun k4 => ?_
    · subst k
      have el : pl (.mk 16 un nm ul l R) = List.replicate nm.length zeroT := by simp [pl, Tt.K, Tt.nm]
      rw [el, List.length_replicate]
      obtain ⟨m, rfl⟩ : ∃ k, n = k + 1 := ⟨n - 1, by omega⟩
      refine lp_scarfref13_Plain_1 _ m 16 un _ _ ul _ _ R _ _ (br_dec (fun h0 => ?_) fun h0 => br_dec (fun h' => absurd h' (by decide)) fun _ => br_dec (fun h' => absurd h' (by decide)) fun _ => ?_)
      · refine ⟨⟨rfl, rfl, rfl, rfl, rfl, by omega, by omega, .inl rfl⟩, ?_⟩
        refine RPlain_lp3 (m + 1) 16 un nm ul l R _ rfl h1 _ (fun ver => ⟨15, un, nm.length, nm.map str, false, 0, ?_⟩) m 1 0 (by omega) (by omega)
        have h3 : ∀ j, frz ⟨[(0, ⟨ver, 4, tcells (List.replicate nm.length zeroT)⟩)], 1⟩ (j + 2) (.bsl 0 ver 0 nm.length) = some (.sl false nm.length (tcells (List.replicate nm.length zeroT))) := fun j =>
          frz_bsl (bx := ⟨ver, 4, tcells (List.replicate nm.length zeroT)⟩) rfl rfl (List.take_of_length_le (by simp [tcells_length])) (by simp [tcells_length]) (tcells_solid _)
        show Option.map PV.agg (List.mapM (frz _ 8) _) = _
        simp only [List.mapM_cons, List.mapM_nil, h3 6]
        rfl
      · have e : nm.length = 0 := by omega
        rw [e]
        exact ⟨_, _, _, _, _, _, rfl⟩
    · subst k
      have el : pl (.mk 17 un nm ul l R) = zeroT :: l := by simp [pl, Tt.K, Tt.l]
      rw [el]
      have := h3 rfl
      refine ⟨⟨tcells_length l, tcells_oneC l, rfl, rfl, rfl, by omega, by omega, .inr (by omega)⟩, br_dec (fun h' => absurd h' (by decide)) fun _ => ⟨15, true, 2, [.s (.string (ByteArray.mk #[110, 111, 110, 101])), .s (.string (ByteArray.mk #[115, 111, 109, 101]))], false, 0, ?_⟩⟩
      have ec : ([i64 (0), .sl true 0 [], .sl true 0 [], i64 (0)] ++ tcells l) = tcells (zeroT :: l) := rfl
      rw [ec]
      have h3 : ∀ j, frz ⟨[(0, ⟨0, 4, tcells (zeroT :: l)⟩)], 1⟩ (j + 2) (.bsl 0 0 0 (1 + l.length)) = some (.sl false (1 + l.length) (tcells (zeroT :: l))) := fun j =>
        frz_bsl (bx := ⟨0, 4, tcells (zeroT :: l)⟩) rfl rfl (List.take_of_length_le (by rw [tcells_length]; simp; omega)) (by rw [tcells_length]; simp; omega) (tcells_solid _)
      show Option.map PV.agg (List.mapM (frz _ 8) _) = _
      simp only [List.mapM_cons, List.mapM_nil, h3 6]
      rw [List.length_cons, Nat.add_comm 1]
      rfl
    · subst k
      have el : pl (.mk 18 un nm ul l R) = l := by simp [pl, Tt.K, Tt.l]
      rw [el]
      exact ⟨_, _, _, _, _, _, rfl⟩
    · have el : pl (.mk K un nm ul l R) = l := by simp [pl, Tt.K, Tt.l, k2, k3]
      rw [el]
      exact ⟨_, _, _, _, _, _, rfl⟩
  obtain ⟨p, T, hr, K', u, k, cs, u', R', hf⟩ := key
  exact ⟨K', u, k, cs, u', R', cl_frz (by kernel_rfl) hp hr hf⟩
end Go.Proofs.YtmjnfdjhaopeiaaGreatDoor
