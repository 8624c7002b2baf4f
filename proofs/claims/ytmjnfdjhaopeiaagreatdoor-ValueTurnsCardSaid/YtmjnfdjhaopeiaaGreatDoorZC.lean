/-
  A part of the proof: Z7, Z8, Z9.
-/
import Derived.Test.YtmjnfdjhaopeiaaGreatDoorZB
import Derived.Test.YtmjnfdjhaopeiaaGreatDoorZ1b
namespace Go.Proofs.YtmjnfdjhaopeiaaGreatDoor
open Go Go.Pvm
set_option maxRecDepth 100000

set_option maxHeartbeats 4000000 in
theorem own_entry (n : Nat) (K : Int) (un : Bool) (nm : List ByteArray) (ul : Bool) (l : List Tt) (R : Int) (hn : nm.length + 140 ≤ n) (f1 : nm.length ≤ 140737488355328) (Q : PV → Store → Prop)
    (fin : ∀ b : Bool, (b = true ↔ OwnP K (distB nm 64).toNat nm.length l.length R) → Q (bl b) S0) : Ret cfg (n + 1) f_scarfref13_own [.agg (Tt.mk K un nm ul l R).cells] S0 Q := by
  have hd := names_cl (n := n) un nm 64 (by omega) (by omega) S0
  have hd2 := names_cl (n := n) un nm 32 (by omega) (by omega) S0
  rw [distB_32] at hd2
  have hlen : distB nm 64 = true → 1 ≤ nm.length ∧ nm.length ≤ 64 := fun h => by have := distB_len h; omega
  refine vc_scarfref13_own n K un _ _ ul _ _ R _ ?_
  unfold OwnP at fin
  cases hdd : distB nm 64 with
  | false =>
    rw [hdd] at hd hd2
    simp only [Bool.false_and] at hd2
    simp only [hdd, Bool.toNat_false] at fin
    repeat' (first | with_reducible refine br_ndec (fun _ => ?_) (fun _ => ?_) | with_reducible refine br_dec (fun _ => ?_) (fun _ => ?_) | with_reducible refine ⟨_, hd, ?_⟩ | with_reducible refine ⟨_, hd2, ?_⟩ | with_reducible refine br_false ?_ | with_reducible refine br_true ?_)
    all_goals (refine fin _ ?_; clear fin hd hd2; (try simp only [decide_eq_true_iff]); grind)
  | true =>
    have := hlen hdd
    rw [hdd] at hd hd2
    simp only [Bool.true_and] at hd2
    simp only [hdd, Bool.toNat_true] at fin
    repeat' (first | with_reducible refine br_ndec (fun _ => ?_) (fun _ => ?_) | with_reducible refine br_dec (fun _ => ?_) (fun _ => ?_) | with_reducible refine ⟨_, hd, ?_⟩ | with_reducible refine ⟨_, hd2, ?_⟩ | with_reducible refine br_false ?_ | with_reducible refine br_true ?_)
    all_goals (refine fin _ ?_; clear fin hd hd2; (try simp only [decide_eq_true_iff]); grind)

theorem own_cl {n : Nat} (t : Tt) (hf : t.fits) (hn : t.sz + 150 ≤ n) (S : Store) : cl n f_scarfref13_own [.agg t.cells] S = some (bl (decide (ownT t)), S) := by
  obtain ⟨n, rfl⟩ : ∃ k, n = k + 1 := ⟨n - 1, by omega⟩
  obtain ⟨K, un, nm, ul, l, R⟩ := t
  obtain ⟨f1, f2, f3⟩ := hf
  simp only [Tt.sz] at hn
  refine cl_of (by kernel_rfl) rfl (Ret.eq (own_entry n K un nm ul l R (by omega) f1 _ fun b hb => ⟨?_, rfl⟩)) rfl
  congr 2
  rw [Bool.eq_iff_iff, decide_eq_true_iff]; exact hb
end Go.Proofs.YtmjnfdjhaopeiaaGreatDoor

namespace Go.Proofs.YtmjnfdjhaopeiaaGreatDoor
open Go Go.Pvm
set_option maxRecDepth 100000

mutual
def deepT : Tt → Int → Bool
  | .mk K _ nm _ l R, d => if 16 ≤ d then false else if OwnP K (distB nm 64).toNat nm.length l.length R then deepL K l d else false
def deepL (K : Int) : List Tt → Int → Bool
  | [], _ => true
  | x :: r, d => if (K = 15 ∨ K = 18) ∧ noneT x = true then deepL K r d else if deepT x (d + 1) then deepL K r d else false
end

mutual
theorem deep_cl : ∀ (t : Tt) (d : Int) (n : Nat) (S : Store), t.fits → t.sz + 170 ≤ n → 0 ≤ d → d ≤ 16 → cl n f_scarfref13_deep [.agg t.cells, i64 d] S = some (bl (deepT t d), S)
  | .mk K un nm ul l R, d, n, S, ⟨f1, f2, f3⟩, hn, hd0, hd => by
    obtain ⟨n, rfl⟩ : ∃ k, n = k + 1 := ⟨n - 1, by omega⟩
    have ho := own_cl (n := n) (.mk K un nm ul l R) ⟨f1, f2, f3⟩ (by omega) S0
    simp only [Tt.sz] at hn
    have := tsz_len l
    refine cl_of (by kernel_rfl) (by simp [pureL?, pure?, pure_tcells]) (Ret.eq (vc_scarfref13_deep n K un _ _ ul _ _ R d _ (br_dec (fun h => ⟨?_, rfl⟩) fun h => ⟨_, ho, br_intro (fun h1 => ⟨?_, rfl⟩) fun h1 => ?_⟩))) rfl
    · simp only [deepT]; rw [if_pos (by omega)]
    · simp only [deepT]; rw [if_neg (by omega), if_neg]; simp only [Bool.not_eq_true', decide_eq_false_iff_not] at h1; exact h1
    · refine deep_lp l l 0 K un nm ul R d n n _ rfl f3 f2 (by omega) (by omega) hd0 (by omega) ⟨?_, rfl⟩
      simp only [deepT]; rw [if_neg (by omega), if_pos]; simp only [Bool.not_eq_false', decide_eq_true_eq] at h1; exact h1
theorem deep_lp : ∀ (r l : List Tt) (i : Nat) (K : Int) (un : Bool) (nm : List ByteArray) (ul : Bool) (R d : Int) (n m : Nat) (Q : PV → Store → Prop), l.drop i = r → tfits r → l.length ≤ 140737488355328 → tsz r + 170 ≤ n → r.length < m → 0 ≤ d → d ≤ 15 →
    Q (bl (deepL K r d)) S0 → L_scarfref13_deep_0 n m K un nm.length (nm.map str) ul l.length (tcells l) R d (i : Int) Q
  | [], l, i, K, un, nm, ul, R, d, n, m, Q, hd, hf, hl, hn, hm, hd0, hd1, hQ => by
    obtain ⟨m, rfl⟩ : ∃ k, m = k + 1 := ⟨m - 1, by omega⟩
    have := drop_len hd
    simp only [List.length_nil] at this
    exact lp_scarfref13_deep_0 n m K un _ _ ul _ _ R d _ Q (br_dec (fun h => absurd h (by omega)) fun _ => hQ)
  | x :: r, l, i, K, un, nm, ul, R, d, n, m, Q, hd, hf, hl, hn, hm, hd0, hd1, hQ => by
    obtain ⟨m, rfl⟩ : ∃ k, m = k + 1 := ⟨m - 1, by omega⟩
    obtain ⟨h1, h2, h3⟩ := drop_get hd
    simp only [tsz] at hn
    have hx := ld_T h1
    have hnone := None_cl (n := n) (by omega) x S0
    have e1 : IntKind.i64.wrap ((i : Int) + 1) = ((i + 1 : Nat) : Int) := by rw [wrap64 (by omega)]; simp
    have e2 : IntKind.i64.wrap (d + 1) = d + 1 := wrap64 (by omega)
    have hw : cl n f_scarfref13_deep [.agg x.cells, i64 (IntKind.i64.wrap (d + 1))] S0 = some (bl (deepT x (d + 1)), S0) := by rw [e2]; exact deep_cl x (d + 1) n S0 hf.1 (by omega) (by omega) (by omega)
    have go : Q (bl (deepL K r d)) S0 → L_scarfref13_deep_0 n m K un nm.length (nm.map str) ul l.length (tcells l) R d (IntKind.i64.wrap ((i : Int) + 1)) Q := fun g2 => by
      rw [e1]; exact deep_lp r l (i + 1) K un nm ul R d n m Q h2 hf.2 hl (by omega) (by simp at hm; omega) hd0 hd1 g2
    have rest : ((K = 15 ∨ K = 18) → noneT x = false) → br (!deepT x (d + 1)) (Q (bl false) ⟨[], 0⟩) (L_scarfref13_deep_0 n m K un nm.length (nm.map str) ul l.length (tcells l) R d (IntKind.i64.wrap ((i : Int) + 1)) Q) := by
      intro hno
      simp only [deepL] at hQ
      rw [if_neg (by rintro ⟨h, h'⟩; rw [hno h] at h'; cases h')] at hQ
      refine br_intro (fun k1 => ?_) fun k1 => ?_
      · rw [if_neg (by simpa using k1)] at hQ; exact hQ
      · rw [if_pos (by simpa using k1)] at hQ; exact go hQ
    have skip : (K = 15 ∨ K = 18) → noneT x = true → L_scarfref13_deep_0 n m K un nm.length (nm.map str) ul l.length (tcells l) R d (IntKind.i64.wrap ((i : Int) + 1)) Q := by
      intro hk hno
      simp only [deepL] at hQ
      rw [if_pos ⟨hk, hno⟩] at hQ
      exact go hQ
    refine lp_scarfref13_deep_0 n m K un _ _ ul _ _ R d _ Q (br_dec (fun _ => ?_) fun h => absurd (by omega) h)
    generalize deepT x (d + 1) = w at *
    generalize noneT x = b at *
    clear hQ go
    have hi := idx_ok h3 (tcells_len l) (k := 4) (by omega)
    obtain ⟨K', un', nm', ul', l', R'⟩ := x
    refine br_dec (fun k => ⟨hi, _, _, _, _, _, _, _, _, hx, _, hnone, br_intro (fun h => skip (.inl k) h) fun h => ⟨hi, _, _, _, _, _, _, _, _, hx, _, hw, rest fun _ => h⟩⟩) fun k =>
      br_dec (fun k' => ⟨hi, _, _, _, _, _, _, _, _, hx, _, hnone, br_intro (fun h => skip (.inr k') h) fun h => ⟨hi, _, _, _, _, _, _, _, _, hx, _, hw, rest fun _ => h⟩⟩) fun k' => ⟨hi, _, _, _, _, _, _, _, _, hx, _, hw, rest (by omega)⟩
end

mutual
def partsT : Tt → Int
  | .mk _ _ _ _ l _ => partsL l 1
def partsL : List Tt → Int → Int
  | [], n => n
  | x :: r, n => if n ≤ 500 then if x.K ≠ 0 then partsL r (n + partsT x) else partsL r n else n
end

theorem own_K {K : Int} {d nm l : Nat} {R : Int} (h : OwnP K d nm l R) : K ≠ 0 := by unfold OwnP at h; omega
theorem deepT_own {t : Tt} {d : Int} (h : deepT t d = true) : t.K ≠ 0 ∧ d < 16 := by
  obtain ⟨K, un, nm, ul, l, R⟩ := t
  simp only [deepT] at h
  split at h
  · cases h
  · split at h
    · rename_i h2; exact ⟨own_K h2, by omega⟩
    · cases h
theorem noneT_K {t : Tt} (h : noneT t = true) : t.K = 0 := by
  simp only [noneT, Bool.and_eq_true, decide_eq_true_eq] at h; exact h.1

mutual
theorem partsT_le : ∀ (t : Tt) (d : Int), deepT t d = true → 1 ≤ partsT t ∧ partsT t ≤ 500 * (17 - d)
  | .mk K _ nm _ l R, d, h => by
    have := (deepT_own h).2
    simp only [deepT] at h
    split at h
    · cases h
    · split at h
      · exact partsL_le l K d 1 h (by omega) (by omega)
      · cases h
theorem partsL_le : ∀ (l : List Tt) (K d : Int) (n : Int), deepL K l d = true → 1 ≤ n → n ≤ 500 * (17 - d) → n ≤ partsL l n ∧ partsL l n ≤ 500 * (17 - d)
  | [], _, d, n, _, h0, h => by simp only [partsL]; omega
  | x :: r, K, d, n, hd, h0, h => by
    simp only [partsL]
    simp only [deepL] at hd
    split
    · rename_i hn
      split at hd
      · rename_i hx
        rw [if_neg (by rw [noneT_K hx.2]; simp)]
        exact partsL_le r K d n hd h0 h
      · split at hd
        · rename_i hx
          have h1 := partsT_le x (d + 1) hx
          rw [if_pos (deepT_own hx).1]
          have := partsL_le r K d (n + partsT x) hd (by omega) (by omega)
          omega
        · cases hd
    · omega
end

mutual
theorem parts_cl : ∀ (t : Tt) (d : Int) (n : Nat) (S : Store), deepT t d = true → 0 ≤ d → t.fits → t.sz + 10 ≤ n → cl n f_scarfref13_parts [.agg t.cells] S = some (i64 (partsT t), S)
  | .mk K un nm ul l R, d, n, S, h, h0, ⟨f1, f2, f3⟩, hn => by
    obtain ⟨n, rfl⟩ : ∃ k, n = k + 1 := ⟨n - 1, by omega⟩
    simp only [Tt.sz] at hn
    have := tsz_len l
    have hd := (deepT_own h).2
    simp only [deepT] at h
    split at h
    · cases h
    · split at h
      · exact cl_of (by kernel_rfl) (by simp [pureL?, pure?, pure_tcells]) (Ret.eq (vc_scarfref13_parts n K un _ _ ul _ _ R _ (parts_lp l l 0 K un nm ul R d n n 1 _ rfl h h0 (by omega) (by omega) f3 f2 (by omega) (by omega) ⟨rfl, rfl⟩))) rfl
      · cases h
theorem parts_lp : ∀ (r l : List Tt) (i : Nat) (K : Int) (un : Bool) (nm : List ByteArray) (ul : Bool) (R d : Int) (n m : Nat) (acc : Int) (Q : PV → Store → Prop), l.drop i = r → deepL K r d = true → 0 ≤ d → 1 ≤ acc → acc ≤ 500 * (17 - d) → tfits r → l.length ≤ 140737488355328 → tsz r + 10 ≤ n → r.length < m →
    Q (i64 (partsL r acc)) S0 → L_scarfref13_parts_0 n m K un nm.length (nm.map str) ul l.length (tcells l) R acc (i : Int) Q
  | [], l, i, K, un, nm, ul, R, d, n, m, acc, Q, hd, hdp, hd0, ha0, ha1, hf, hl, hn, hm, hQ => by
    obtain ⟨m, rfl⟩ : ∃ k, m = k + 1 := ⟨m - 1, by omega⟩
    have := drop_len hd
    simp only [List.length_nil] at this
    exact lp_scarfref13_parts_0 n m K un _ _ ul _ _ R acc _ Q (br_dec (fun h => absurd h (by omega)) fun _ => hQ)
  | x :: r, l, i, K, un, nm, ul, R, d, n, m, acc, Q, hd, hdp, hd0, ha0, ha1, hf, hl, hn, hm, hQ => by
    obtain ⟨m, rfl⟩ : ∃ k, m = k + 1 := ⟨m - 1, by omega⟩
    obtain ⟨h1, h2, h3⟩ := drop_get hd
    simp only [tsz] at hn
    have hx := ld_T h1
    have e1 : IntKind.i64.wrap ((i : Int) + 1) = ((i + 1 : Nat) : Int) := by rw [wrap64 (by omega)]; simp
    have hi := idx_ok h3 (tcells_len l) (k := 4) (by omega)
    have hK : ld prog t_int (tcells l) (Int.toNat (i : Int) * 4 + 0) (i64 x.K) := by
      refine ld_one agg_int ?_
      have h4 : ((tcells l).drop (i * 4)).take 4 = x.cells := by rw [tcells_cat]; exact cat_at tcell_len h1
      have h5 : (((tcells l).drop (i * 4)).take 4)[0]? = some (i64 x.K) := by rw [h4]; obtain ⟨K', un', nm', ul', l', R'⟩ := x; rfl
      rw [List.getElem?_take_of_lt (by omega), List.getElem?_drop] at h5
      rw [Int.toNat_natCast]; exact h5
    refine lp_scarfref13_parts_0 n m K un _ _ ul _ _ R acc _ Q (br_dec (fun _ => br_dec (fun k => ⟨hi, _, hK, ?_⟩) fun k => ?_) fun h => absurd (by omega) h)
    · simp only [partsL] at hQ
      rw [if_pos k] at hQ
      simp only [deepL] at hdp
      rw [e1]
      split at hdp
      · rename_i hno
        have hk0 := noneT_K hno.2
        rw [if_neg (by rw [hk0]; simp)] at hQ
        refine br_ndec (fun k2 => absurd hk0 k2) fun k2 => ?_
        exact parts_lp r l (i + 1) K un nm ul R d n m acc Q h2 hdp hd0 ha0 ha1 hf.2 hl (by omega) (by simp at hm; omega) hQ
      · split at hdp
        · rename_i hdx
          have hb := partsT_le x (d + 1) hdx
          have hp := parts_cl x (d + 1) n S0 hdx (by omega) hf.1 (by omega)
          rw [if_pos (deepT_own hdx).1] at hQ
          refine br_ndec (fun k2 => ?_) fun k2 => absurd k2 (deepT_own hdx).1
          have go := parts_lp r l (i + 1) K un nm ul R d n m (acc + partsT x) Q h2 hdp hd0 (by omega) (by omega) hf.2 hl (by omega) (by simp at hm; omega) hQ
          have e3 : IntKind.i64.wrap (acc + partsT x) = acc + partsT x := wrap64 (by have := (deepT_own hdx).2; omega)
          rw [← e3] at go
          clear hQ hK
          generalize partsT x = w at *
          obtain ⟨K', un', nm', ul', l', R'⟩ := x
          exact ⟨hi, _, _, _, _, _, _, _, _, hx, _, hp, go⟩
        · cases hdp
    · simp only [partsL] at hQ
      rw [if_neg k] at hQ; exact hQ
end
def mayT (t : Tt) : Bool := deepT t 0 && decide (partsT t ≤ 500)
theorem May_cl {n : Nat} (t : Tt) (hf : t.fits) (hn : t.sz + 180 ≤ n) (S : Store) : cl n f_scarfref13_May [.agg t.cells] S = some (bl (mayT t), S) := by
  obtain ⟨n, rfl⟩ : ∃ k, n = k + 1 := ⟨n - 1, by omega⟩
  have h1 := deep_cl t 0 n S0 hf (by omega) (by omega) (by omega)
  have h2 : deepT t 0 = true → cl n f_scarfref13_parts [.agg t.cells] S0 = some (i64 (partsT t), S0) := fun h => parts_cl t 0 n S0 h (by omega) hf (by omega)
  unfold mayT
  generalize deepT t 0 = b at *
  generalize partsT t = w at *
  have hp : pureL? [.agg t.cells] = true := by simp [pureL?, pure?, pure_tcells]
  obtain ⟨K, un, nm, ul, l, R⟩ := t
  refine cl_of (by kernel_rfl) hp (Ret.eq (vc_scarfref13_May n K un _ _ ul _ _ R _ ⟨_, h1, br_intro (fun h => ⟨_, h2 h, ?_, rfl⟩) fun h => ⟨?_, rfl⟩⟩)) rfl
  · simp [h]
  · simp [h]
end Go.Proofs.YtmjnfdjhaopeiaaGreatDoor

namespace Go.Proofs.YtmjnfdjhaopeiaaGreatDoor
open Go Go.Pvm
set_option maxRecDepth 100000

mutual
def cntT : Tt → Int
  | .mk _ _ _ _ l _ => 1 + cntL l
def cntL : List Tt → Int
  | [] => 0
  | x :: r => (if x.K ≠ 0 then cntT x else 0) + cntL r
end
mutual
theorem cntT_pos : ∀ t : Tt, 1 ≤ cntT t
  | .mk _ _ _ _ l _ => by have := cntL_pos l; simp only [cntT]; omega
theorem cntL_pos : ∀ l : List Tt, 0 ≤ cntL l
  | [] => by simp [cntL]
  | x :: r => by
    have h1 := cntT_pos x
    have h2 := cntL_pos r
    simp only [cntL]
    split <;> omega
end

mutual
theorem withinT_eq : ∀ (t : Tt) (d : Int), 0 ≤ d → (deepT t d = true → cntT t ≤ 500 → withinT t (d + 1) = cntT t) ∧ (¬ (deepT t d = true ∧ cntT t ≤ 500) → withinT t (d + 1) = 0)
  | .mk K un nm ul l R, d, h0 => by
    obtain ⟨hA, hB⟩ := withinL_eq l K d 1 h0 (by omega) (by omega)
    have ec : cntT (.mk K un nm ul l R) = 1 + cntL l := by simp only [cntT]
    rw [ec]
    by_cases hd : 16 ≤ d
    · have e : deepT (.mk K un nm ul l R) d = false := by simp only [deepT]; rw [if_pos hd]
      have w : withinT (.mk K un nm ul l R) (d + 1) = 0 := by simp only [withinT]; rw [if_neg (by omega)]
      rw [e, w]; exact ⟨fun h => (by cases h), fun _ => rfl⟩
    · by_cases ho : OwnP K (distB nm 64).toNat nm.length l.length R
      · have e : deepT (.mk K un nm ul l R) d = deepL K l d := by simp only [deepT]; rw [if_neg hd, if_pos ho]
        have w : withinT (.mk K un nm ul l R) (d + 1) = withinL K l (d + 1) 1 := by simp only [withinT]; rw [if_pos ⟨ho, by omega⟩]
        rw [e, w]; exact ⟨hA, hB⟩
      · have e : deepT (.mk K un nm ul l R) d = false := by simp only [deepT]; rw [if_neg hd, if_neg ho]
        have w : withinT (.mk K un nm ul l R) (d + 1) = 0 := by simp only [withinT]; rw [if_neg (fun h => ho h.1)]
        rw [e, w]; exact ⟨fun h => (by cases h), fun _ => rfl⟩
theorem withinL_eq : ∀ (l : List Tt) (K d n : Int), 0 ≤ d → 1 ≤ n → n ≤ 500 → (deepL K l d = true → n + cntL l ≤ 500 → withinL K l (d + 1) n = n + cntL l) ∧ (¬ (deepL K l d = true ∧ n + cntL l ≤ 500) → withinL K l (d + 1) n = 0)
  | [], K, d, n, h0, h1, h2 => by
    have e : deepL K [] d = true := by simp only [deepL]
    have w : withinL K [] (d + 1) n = n := by simp only [withinL]
    have c : cntL [] = 0 := by simp only [cntL]
    rw [e, w, c]
    exact ⟨fun _ _ => by omega, fun h => absurd ⟨rfl, by omega⟩ h⟩
  | x :: r, K, d, n, h0, h1, h2 => by
    have hp := cntT_pos x
    have hr := cntL_pos r
    obtain ⟨xA, xB⟩ := withinT_eq x (d + 1) (by omega)
    by_cases hn : (K = 15 ∨ K = 18) ∧ noneT x = true
    · have e : deepL K (x :: r) d = deepL K r d := by simp only [deepL]; rw [if_pos hn]
      have w : withinL K (x :: r) (d + 1) n = withinL K r (d + 1) n := by simp only [withinL]; rw [if_pos hn]
      have c : cntL (x :: r) = cntL r := by simp only [cntL]; rw [if_neg (by rw [noneT_K hn.2]; simp)]; omega
      rw [e, w, c]
      exact withinL_eq r K d n h0 h1 h2
    · have w : withinL K (x :: r) (d + 1) n = if withinT x (d + 1 + 1) = 0 ∨ 500 < n + withinT x (d + 1 + 1) then 0 else withinL K r (d + 1) (n + withinT x (d + 1 + 1)) := by simp only [withinL]; rw [if_neg hn]
      cases hd : deepT x (d + 1) with
      | false =>
        have e : deepL K (x :: r) d = false := by simp only [deepL]; rw [if_neg hn, hd]; simp
        rw [e, w, xB (by simp [hd]), if_pos (.inl rfl)]
        exact ⟨fun h => (by cases h), fun _ => rfl⟩
      | true =>
        have hk := (deepT_own hd).1
        have e : deepL K (x :: r) d = deepL K r d := by simp only [deepL]; rw [if_neg hn, hd]; simp
        have c : cntL (x :: r) = cntT x + cntL r := by simp only [cntL]; rw [if_pos hk]
        rw [e, w, c]
        by_cases hc : cntT x ≤ 500
        · rw [xA hd hc]
          by_cases hs : n + cntT x ≤ 500
          · rw [if_neg (by omega)]
            obtain ⟨rA, rB⟩ := withinL_eq r K d (n + cntT x) h0 (by omega) hs
            exact ⟨fun h h' => by rw [rA h (by omega)]; omega, fun h => rB (fun h' => h ⟨h'.1, by omega⟩)⟩
          · rw [if_pos (by omega)]
            exact ⟨fun _ h => by omega, fun _ => rfl⟩
        · rw [xB (fun h => hc h.2), if_pos (.inl rfl)]
          exact ⟨fun _ h => by omega, fun _ => rfl⟩
end

mutual
theorem partsT_eq : ∀ t : Tt, (cntT t ≤ 500 → partsT t = cntT t) ∧ (500 < cntT t → 500 < partsT t)
  | .mk K _ nm _ l R => by
    obtain ⟨hA, hB⟩ := partsL_eq l 1 (by omega)
    simp only [partsT, cntT]
    exact ⟨hA, hB⟩
theorem partsL_eq : ∀ (l : List Tt) (n : Int), 1 ≤ n → (n + cntL l ≤ 500 → partsL l n = n + cntL l) ∧ (500 < n + cntL l → 500 < partsL l n)
  | [], n, h => by simp only [partsL, cntL]; omega
  | x :: r, n, h => by
    simp only [partsL, cntL]
    have hp := cntT_pos x
    have hr := cntL_pos r
    obtain ⟨xA, xB⟩ := partsT_eq x
    by_cases hn : n ≤ 500
    · rw [if_pos hn]
      by_cases hk : x.K ≠ 0
      · rw [if_pos hk, if_pos hk]
        by_cases hc : cntT x ≤ 500
        · rw [xA hc]
          have := partsL_eq r (n + cntT x) (by omega)
          omega
        · have h1 := xB (by omega)
          have h2 := partsL_big r (n + partsT x) (by omega)
          rw [h2]; omega
      · rw [if_neg hk, if_neg hk]
        have := partsL_eq r n h
        omega
    · rw [if_neg hn]
      split <;> omega
theorem partsL_big : ∀ (l : List Tt) (n : Int), 500 < n → partsL l n = n
  | [], n, _ => rfl
  | x :: r, n, h => by simp only [partsL]; rw [if_neg (by omega)]
end

theorem may_within (t : Tt) : mayT t = !decide (withinT t 1 = 0) := by
  obtain ⟨hA, hB⟩ := withinT_eq t 0 (by omega)
  obtain ⟨pA, pB⟩ := partsT_eq t
  have hp := cntT_pos t
  simp only [Int.zero_add] at hA hB
  unfold mayT
  by_cases hd : deepT t 0 = true
  · by_cases hc : cntT t ≤ 500
    · rw [hA hd hc, hd, pA hc, decide_eq_true (by omega), decide_eq_false (by omega)]; rfl
    · rw [hB (fun h => hc h.2), hd]
      have := pB (by omega)
      rw [decide_eq_false (by omega)]; rfl
  · rw [hB (fun h => hd h.1)]
    simp [hd]

/-! ### ctype.Check -/
theorem Check_cl {n : Nat} (t : Tt) (hf : t.fits) (hn : t.sz + 80 ≤ n) (S : Store) : cl n f_ctype_Check [.agg t.cells] S = some (i64 (if mayT t then 0 else 1), S) := by
  obtain ⟨n, rfl⟩ : ∃ k, n = k + 1 := ⟨n - 1, by omega⟩
  have h1 := within_cl t 1 n S0 hf (by omega) (by omega) (by omega)
  rw [may_within]
  have hp : pureL? [.agg t.cells] = true := by simp [pureL?, pure?, pure_tcells]
  generalize withinT t 1 = w at *
  obtain ⟨K, un, nm, ul, l, R⟩ := t
  refine cl_of (by kernel_rfl) hp (Ret.eq (vc_ctype_Check n K un _ _ ul _ _ R _ ⟨_, h1, br_dec (fun h => ⟨?_, rfl⟩) fun h => ⟨?_, rfl⟩⟩)) rfl
  · simp [h]
  · simp [h]

/-- api.Sig: a name, arguments' names and types, a result. -/
structure Sg where
  name : ByteArray
  pu : Bool
  p : List ByteArray
  tu : Bool
  t : List Tt
  r : Tt
def Sg.cells (s : Sg) : List PV := [str s.name, .sl s.pu s.p.length (s.p.map str), .sl s.tu s.t.length (tcells s.t)] ++ s.r.cells
def Sg.fits (s : Sg) : Prop := s.p.length ≤ 140737488355328 ∧ s.t.length ≤ 140737488355328 ∧ tfits s.t ∧ s.r.fits
def Sg.sz (s : Sg) : Nat := s.p.length + tsz s.t + s.r.sz
def maySig (s : Sg) : Bool := decide (s.p.length = s.t.length) && ((decide (s.p.length = 0) || distB s.p 64) && ((noneT s.r || mayT s.r) && s.t.all mayT))

theorem CheckSig_lp (n : Nat) (u : Bool) (l : List Tt) (hl : l.length ≤ 140737488355328) (Q : PV → Store → Prop) : ∀ (r : List Tt) (i m : Nat), l.drop i = r → tfits r → tsz r + 90 ≤ n → r.length < m →
    Q (i64 (if r.all mayT then 0 else 1)) S0 → L_ctype_CheckSig_0 n m u l.length (tcells l) (i : Int) Q
  | [], i, m, hd, hf, hn, hm, hQ => by
    obtain ⟨m, rfl⟩ : ∃ k, m = k + 1 := ⟨m - 1, by omega⟩
    have := drop_len hd
    simp only [List.length_nil] at this
    exact lp_ctype_CheckSig_0 n m u _ _ _ Q (br_dec (fun h => absurd h (by omega)) fun _ => hQ)
  | x :: r, i, m, hd, hf, hn, hm, hQ => by
    obtain ⟨m, rfl⟩ : ∃ k, m = k + 1 := ⟨m - 1, by omega⟩
    obtain ⟨h1, h2, h3⟩ := drop_get hd
    simp only [tsz] at hn
    have hx := ld_T h1
    have hc := Check_cl (n := n) x hf.1 (by omega) S0
    have hi := idx_ok h3 (tcells_len l) (k := 4) (by omega)
    have e1 : IntKind.i64.wrap ((i : Int) + 1) = ((i + 1 : Nat) : Int) := by rw [wrap64 (by omega)]; simp
    refine lp_ctype_CheckSig_0 n m u _ _ _ Q (br_dec (fun _ => ?_) fun h => absurd (by omega) h)
    have go : mayT x = true → L_ctype_CheckSig_0 n m u l.length (tcells l) (IntKind.i64.wrap ((i : Int) + 1)) Q := fun h => by
      rw [e1]
      refine CheckSig_lp n u l hl Q r (i + 1) m h2 hf.2 (by omega) (by simp at hm; omega) ?_
      simpa [h] using hQ
    have hno : mayT x = false → Q (i64 1) S0 := fun h => by simpa [h] using hQ
    clear hQ
    generalize mayT x = b at *
    obtain ⟨K', un', nm', ul', l', R'⟩ := x
    refine ⟨hi, _, _, _, _, _, _, _, _, hx, _, hc, ?_⟩
    cases b with
    | true => exact go rfl
    | false => exact hno rfl

theorem MaySig_lp (n : Nat) (s : Sg) (l : List Tt) (hs : s.t = l) (hl : l.length ≤ 140737488355328) (Q : PV → Store → Prop) (K : Int) (un : Bool) (nm : List ByteArray) (ul : Bool) (lr : List Tt) (R : Int) : ∀ (r : List Tt) (i m : Nat), l.drop i = r → tfits r → tsz r + 190 ≤ n → r.length < m →
    Q (bl (r.all mayT)) S0 → L_scarfref13_MaySig_0 n m s.name s.pu s.p.length (s.p.map str) s.tu l.length (tcells l) K un nm.length (nm.map str) ul lr.length (tcells lr) R (i : Int) Q
  | [], i, m, hd, hf, hn, hm, hQ => by
    obtain ⟨m, rfl⟩ : ∃ k, m = k + 1 := ⟨m - 1, by omega⟩
    have := drop_len hd
    simp only [List.length_nil] at this
    exact lp_scarfref13_MaySig_0 n m _ _ _ _ _ _ _ _ _ _ _ _ _ _ _ _ Q (br_dec (fun h => absurd h (by omega)) fun _ => hQ)
  | x :: r, i, m, hd, hf, hn, hm, hQ => by
    obtain ⟨m, rfl⟩ : ∃ k, m = k + 1 := ⟨m - 1, by omega⟩
    obtain ⟨h1, h2, h3⟩ := drop_get hd
    simp only [tsz] at hn
    have hx := ld_T h1
    have hc := May_cl (n := n) x hf.1 (by omega) S0
    have hi := idx_ok h3 (tcells_len l) (k := 4) (by omega)
    have e1 : IntKind.i64.wrap ((i : Int) + 1) = ((i + 1 : Nat) : Int) := by rw [wrap64 (by omega)]; simp
    refine lp_scarfref13_MaySig_0 n m _ _ _ _ _ _ _ _ _ _ _ _ _ _ _ _ Q (br_dec (fun _ => ?_) fun h => absurd (by omega) h)
    have go : mayT x = true → L_scarfref13_MaySig_0 n m s.name s.pu s.p.length (s.p.map str) s.tu l.length (tcells l) K un nm.length (nm.map str) ul lr.length (tcells lr) R (IntKind.i64.wrap ((i : Int) + 1)) Q := fun h => by
      rw [e1]
      refine MaySig_lp n s l hs hl Q K un nm ul lr R r (i + 1) m h2 hf.2 (by omega) (by simp at hm; omega) ?_
      simpa [h] using hQ
    have hno : mayT x = false → Q (bl false) S0 := fun h => by simpa [h] using hQ
    clear hQ
    generalize mayT x = b at *
    obtain ⟨K', un', nm', ul', l', R'⟩ := x
    refine ⟨hi, _, _, _, _, _, _, _, _, hx, _, hc, ?_⟩
    cases b with
    | true => exact go rfl
    | false => exact hno rfl

theorem CheckSig_cl {n : Nat} (s : Sg) (hf : s.fits) (hn : s.sz + 100 ≤ n) (S : Store) : cl n f_ctype_CheckSig [.agg s.cells] S = some (i64 (if maySig s then 0 else 1), S) := by
  obtain ⟨n, rfl⟩ : ∃ k, n = k + 1 := ⟨n - 1, by omega⟩
  obtain ⟨f1, f2, f3, f4⟩ := hf
  simp only [Sg.sz] at hn
  have htl := tsz_len s.t
  have hdist := distinct_cl (n := n) s.pu s.p (by omega) (by omega) S0
  have hnone := none_cl (n := n) (by omega) s.r f4 S0
  have hcheck := Check_cl (n := n) s.r f4 (by omega) S0
  have hlp : ∀ Q : PV → Store → Prop, Q (i64 (if s.t.all mayT then 0 else 1)) S0 → L_ctype_CheckSig_0 n n s.tu s.t.length (tcells s.t) (0 : Int) Q := fun Q hQ => CheckSig_lp n s.tu s.t f2 Q s.t 0 n rfl f3 (by omega) (by omega) hQ
  have hlen : distB s.p 64 = true → 1 ≤ s.p.length ∧ s.p.length ≤ 64 := fun h => by have := distB_len h; omega
  have hp : pureL? [.agg s.cells] = true := by simp [pureL?, pure?, pure_tcells, Sg.cells]
  refine cl_of (by kernel_rfl) hp (Ret.eq ?_) rfl
  unfold maySig
  obtain ⟨nm0, pu, p, tu, t, r⟩ := s
  simp only at *
  generalize noneT r = b1 at *
  generalize mayT r = b2 at *
  generalize t.all mayT = b3 at *
  generalize distB p 64 = b4 at *
  obtain ⟨K, un, nm, ul, l, R⟩ := r
  have fin : ∀ b : Bool, (fun (x : PV) (T : Store) => x = i64 (if b = true then 0 else 1) ∧ T = S0) = fun x T => x = i64 (if b = true then 0 else 1) ∧ T = ⟨[], 0⟩ := fun _ => rfl
  refine vc_ctype_CheckSig n nm0 pu _ _ tu _ _ K un _ _ ul _ _ R _ ?_
  refine br_ndec (fun k1 => ⟨?_, rfl⟩) fun k1 => br_dec (fun k2 => ⟨?_, rfl⟩) fun k2 => br_dec (fun k3 => ⟨_, hdist, br_intro (fun k4 => ⟨?_, rfl⟩) fun k4 => ⟨_, hnone, br_intro (fun k5 => ⟨_, hcheck, br_ndec (fun k6 => ⟨?_, rfl⟩) fun k6 => hlp _ ⟨?_, rfl⟩⟩) fun k5 => hlp _ ⟨?_, rfl⟩⟩⟩)
    fun k3 => ⟨_, hnone, br_intro (fun k5 => ⟨_, hcheck, br_ndec (fun k6 => ⟨?_, rfl⟩) fun k6 => hlp _ ⟨?_, rfl⟩⟩) fun k5 => hlp _ ⟨?_, rfl⟩⟩
  all_goals (clear hlp hdist hnone hcheck fin; refine congrArg i64 ?_; clear hp; cases b1 <;> cases b2 <;> cases b3 <;> cases b4 <;> grind)

theorem MaySig_cl {n : Nat} (s : Sg) (hf : s.fits) (hn : s.sz + 200 ≤ n) (S : Store) : cl n f_scarfref13_MaySig [.agg s.cells] S = some (bl (maySig s), S) := by
  obtain ⟨n, rfl⟩ : ∃ k, n = k + 1 := ⟨n - 1, by omega⟩
  obtain ⟨f1, f2, f3, f4⟩ := hf
  simp only [Sg.sz] at hn
  have htl := tsz_len s.t
  have hdist := names_cl (n := n) s.pu s.p 64 (by omega) (by omega) S0
  have hnone := None_cl (n := n) (by omega) s.r S0
  have hmay := May_cl (n := n) s.r f4 (by omega) S0
  have hlp : ∀ (K : Int) (un : Bool) (nm : List ByteArray) (ul : Bool) (lr : List Tt) (R : Int) (Q : PV → Store → Prop), Q (bl (s.t.all mayT)) S0 → L_scarfref13_MaySig_0 n n s.name s.pu s.p.length (s.p.map str) s.tu s.t.length (tcells s.t) K un nm.length (nm.map str) ul lr.length (tcells lr) R (0 : Int) Q :=
    fun K un nm ul lr R Q hQ => MaySig_lp n s s.t rfl f2 Q K un nm ul lr R s.t 0 n rfl f3 (by omega) (by omega) hQ
  have hp : pureL? [.agg s.cells] = true := by simp [pureL?, pure?, pure_tcells, Sg.cells]
  refine cl_of (by kernel_rfl) hp (Ret.eq ?_) rfl
  unfold maySig
  obtain ⟨nm0, pu, p, tu, t, r⟩ := s
  simp only at *
  generalize noneT r = b1 at *
  generalize mayT r = b2 at *
  generalize t.all mayT = b3 at *
  generalize distB p 64 = b4 at *
  obtain ⟨K, un, nm, ul, l, R⟩ := r
  refine vc_scarfref13_MaySig n nm0 pu _ _ tu _ _ K un _ _ ul _ _ R _ ?_
  refine br_ndec (fun k1 => ⟨?_, rfl⟩) fun k1 => br_dec (fun k3 => ⟨_, hdist, br_intro (fun k4 => ⟨?_, rfl⟩) fun k4 => ⟨_, hnone, br_intro (fun k5 => ⟨_, hmay, br_intro (fun k6 => ⟨?_, rfl⟩) fun k6 => hlp _ _ _ _ _ _ _ ⟨?_, rfl⟩⟩) fun k5 => hlp _ _ _ _ _ _ _ ⟨?_, rfl⟩⟩⟩)
    fun k3 => ⟨_, hnone, br_intro (fun k5 => ⟨_, hmay, br_intro (fun k6 => ⟨?_, rfl⟩) fun k6 => hlp _ _ _ _ _ _ _ ⟨?_, rfl⟩⟩) fun k5 => hlp _ _ _ _ _ _ _ ⟨?_, rfl⟩⟩
  all_goals (clear hlp hdist hnone hmay; refine congrArg bl ?_; clear hp; cases b1 <;> cases b2 <;> cases b3 <;> cases b4 <;> grind)
end Go.Proofs.YtmjnfdjhaopeiaaGreatDoor
