/-
  A part of the proof: N0, N1, N2.
-/
import Derived.Test.YtmjnfdjhaopeiaaGreatDoorZ0
import Derived.Test.YtmjnfdjhaopeiaaGreatDoorPzA
import Derived.Test.YtmjnfdjhaopeiaaGreatDoorPx1
namespace Go.Proofs.YtmjnfdjhaopeiaaGreatDoor.N0
open Go Go.Pvm
noncomputable def cfg : Cfg := { P := Tryz.prog, glob := fun _ => none, priv := fun f d => mem? (at? privT f) d, keep := at? keepT, full := mem? fullT, intr := fun _ => none }
noncomputable abbrev cl (n : Nat) : CallFn := callF cfg (run cfg n)
end Go.Proofs.YtmjnfdjhaopeiaaGreatDoor.N0

namespace Go.Proofs.YtmjnfdjhaopeiaaGreatDoor.N0
open Go Go.Pvm
set_option maxRecDepth 100000
set_option maxHeartbeats 1000000
/-! ### scarf/lex.part -/
def asks_lex_part : Asks := [(1004, .told (.sh (.one (.int .u8)))), (1005, .told (.sh (.one (.bool)))), (1009, .told (.sh (.one (.int .u8)))), (1010, .told (.sh (.one (.bool)))), (3001, .told (.sh (.one (.int .u8)))), (3002, .told (.sh (.one (.bool)))), (6000, .cond), (6001, .told (.sh (.one (.int .u8)))), (7001, .told (.sh (.one (.bool)))), (7005, .told (.sh (.one (.bool)))), (7011, .told (.sh (.one (.bool)))), (7015, .told (.sh (.one (.bool)))), (7020, .told (.sh (.one (.bool))))]
@[irreducible] noncomputable def L_lex_part_0 (n m : Nat) (a0 : ByteArray) (x0_0 : Bool) (x0_1 : Int) (Q : PV → Store → Prop) : Prop := Pvm.Ends cfg (cl n) f_lex_part n (codeAt (bodyOf Tryz.f87) [1, 1, 1, 0, 1, 0]) m
  { regs := [(3, .v (.s (.bool x0_0))), (24, .v (.sl false (a0).size ((a0).data.toList.map fun b => .s (.int .u8 b.toNat)))), (25, .v (i64 (((a0).size : Nat) : Int))), (26, .v (i64 x0_1))], st := ⟨[], ⟨[], 0⟩⟩, nt := 55 }
  (contC cfg (cl n) f_lex_part n asks_lex_part (bodyOf Tryz.f87) [1, 1, 1, 0, 1, 0] [] (retK cfg Tryz.f87 Q))
theorem vc_lex_part (n : Nat) (a0 : ByteArray) (Q : PV → Store → Prop)
  (h :
    br (a0.toList == (ByteArray.mk #[]).toList)
    (Q (.s (.bool false)) ⟨[], 0⟩)
    (∃ (v1 : Int), (indexO prog t_string (.s (.string a0)) (i64 (0)) = some (.s (.int .u8 v1))) ∧
      ∃ (v2 : Bool), (cl n f_lex_lower [.s (.int .u8 v1)] ⟨[], 0⟩ = some (.s (.bool v2), ⟨[], 0⟩)) ∧
      br (!v2)
      (∃ (v3 : Int), (indexO prog t_string (.s (.string a0)) (i64 (0)) = some (.s (.int .u8 v3))) ∧
        ∃ (v4 : Bool), (cl n f_lex_upper [.s (.int .u8 v3)] ⟨[], 0⟩ = some (.s (.bool v4), ⟨[], 0⟩)) ∧
        br (!v4)
        (Q (.s (.bool false)) ⟨[], 0⟩)
        (∃ (v5 : Int), (indexO prog t_string (.s (.string a0)) (i64 (0)) = some (.s (.int .u8 v5))) ∧
          ∃ (v6 : Bool), (cl n f_lex_lower [.s (.int .u8 v5)] ⟨[], 0⟩ = some (.s (.bool v6), ⟨[], 0⟩)) ∧
          L_lex_part_0 n n a0 v6 (0) Q))
      (∃ (v7 : Int), (indexO prog t_string (.s (.string a0)) (i64 (0)) = some (.s (.int .u8 v7))) ∧
        ∃ (v8 : Bool), (cl n f_lex_lower [.s (.int .u8 v7)] ⟨[], 0⟩ = some (.s (.bool v8), ⟨[], 0⟩)) ∧
        L_lex_part_0 n n a0 v8 (0) Q))) :
  Ret cfg (n + 1) f_lex_part [.s (.string a0)] ⟨[], 0⟩ Q :=
  vcRun_eq (fn := Tryz.f87) (asks := asks_lex_part) (by kernel_rfl) (by kernel_rfl) (by kernel_rfl) (by kernel_rfl) (by kernel_rfl) h
theorem lp_lex_part_0 (n m : Nat) (a0 : ByteArray) (x0_0 : Bool) (x0_1 : Int) (Q : PV → Store → Prop)
  (h :
    br (decide (x0_1 < (((a0).size : Nat) : Int)))
    (((0 : Int) ≤ x0_1 ∧ x0_1 < (((a0).size : Nat) : Int) ∧ Int.toNat x0_1 * 1 < (((a0).data.toList.map fun b => .s (.int .u8 b.toNat)) : List PV).length) ∧
      ∃ (v1 : Int), (ld prog t_uint8 ((a0).data.toList.map fun b => .s (.int .u8 b.toNat)) (Int.toNat x0_1 * 1) (.s (.int .u8 v1))) ∧
      ∃ (v2 : Bool), (cl n f_lex_digit [.s (.int .u8 v1)] ⟨[], 0⟩ = some (.s (.bool v2), ⟨[], 0⟩)) ∧
      br (!v2)
      (∃ (v3 : Bool), (cl n f_lex_lower [.s (.int .u8 v1)] ⟨[], 0⟩ = some (.s (.bool v3), ⟨[], 0⟩)) ∧
        br (!(v3 == x0_0))
        (Q (.s (.bool false)) ⟨[], 0⟩)
        (∃ (v4 : Bool), (cl n f_lex_digit [.s (.int .u8 v1)] ⟨[], 0⟩ = some (.s (.bool v4), ⟨[], 0⟩)) ∧
          br (!v4)
          (∃ (v5 : Bool), (cl n f_lex_lower [.s (.int .u8 v1)] ⟨[], 0⟩ = some (.s (.bool v5), ⟨[], 0⟩)) ∧
            br (!v5)
            (∃ (v6 : Bool), (cl n f_lex_upper [.s (.int .u8 v1)] ⟨[], 0⟩ = some (.s (.bool v6), ⟨[], 0⟩)) ∧
              br (!v6)
              (Q (.s (.bool false)) ⟨[], 0⟩)
              (L_lex_part_0 n m a0 x0_0 (IntKind.i64.wrap (x0_1 + (1))) Q))
            (L_lex_part_0 n m a0 x0_0 (IntKind.i64.wrap (x0_1 + (1))) Q))
          (L_lex_part_0 n m a0 x0_0 (IntKind.i64.wrap (x0_1 + (1))) Q)))
      (∃ (v7 : Bool), (cl n f_lex_digit [.s (.int .u8 v1)] ⟨[], 0⟩ = some (.s (.bool v7), ⟨[], 0⟩)) ∧
        br (!v7)
        (∃ (v8 : Bool), (cl n f_lex_lower [.s (.int .u8 v1)] ⟨[], 0⟩ = some (.s (.bool v8), ⟨[], 0⟩)) ∧
          br (!v8)
          (∃ (v9 : Bool), (cl n f_lex_upper [.s (.int .u8 v1)] ⟨[], 0⟩ = some (.s (.bool v9), ⟨[], 0⟩)) ∧
            br (!v9)
            (Q (.s (.bool false)) ⟨[], 0⟩)
            (L_lex_part_0 n m a0 x0_0 (IntKind.i64.wrap (x0_1 + (1))) Q))
          (L_lex_part_0 n m a0 x0_0 (IntKind.i64.wrap (x0_1 + (1))) Q))
        (L_lex_part_0 n m a0 x0_0 (IntKind.i64.wrap (x0_1 + (1))) Q)))
    (Q (.s (.bool true)) ⟨[], 0⟩)) :
  L_lex_part_0 n (m + 1) a0 x0_0 x0_1 Q := by
  unfold L_lex_part_0
  exact Ends_eq (asks := asks_lex_part) (by kernel_rfl) h
/-! ### scarf/lex.lower -/
def asks_lex_lower : Asks := []
theorem vc_lex_lower (n : Nat) (a0 : Int) (Q : PV → Store → Prop)
  (h :
    br (decide (a0 ≥ (97)))
    (Q (.s (.bool (decide (a0 ≤ (122))))) ⟨[], 0⟩)
    (Q (.s (.bool false)) ⟨[], 0⟩)) :
  Ret cfg (n + 1) f_lex_lower [.s (.int .u8 a0)] ⟨[], 0⟩ Q :=
  vcRun_eq (fn := Tryz.f104) (asks := asks_lex_lower) (by kernel_rfl) (by kernel_rfl) (by kernel_rfl) (by kernel_rfl) (by kernel_rfl) h
/-! ### scarf/lex.upper -/
def asks_lex_upper : Asks := []
theorem vc_lex_upper (n : Nat) (a0 : Int) (Q : PV → Store → Prop)
  (h :
    br (decide (a0 ≥ (65)))
    (Q (.s (.bool (decide (a0 ≤ (90))))) ⟨[], 0⟩)
    (Q (.s (.bool false)) ⟨[], 0⟩)) :
  Ret cfg (n + 1) f_lex_upper [.s (.int .u8 a0)] ⟨[], 0⟩ Q :=
  vcRun_eq (fn := Tryz.f105) (asks := asks_lex_upper) (by kernel_rfl) (by kernel_rfl) (by kernel_rfl) (by kernel_rfl) (by kernel_rfl) h
/-! ### scarf/lex.digit -/
def asks_lex_digit : Asks := []
theorem vc_lex_digit (n : Nat) (a0 : Int) (Q : PV → Store → Prop)
  (h :
    br (decide (a0 ≥ (48)))
    (Q (.s (.bool (decide (a0 ≤ (57))))) ⟨[], 0⟩)
    (Q (.s (.bool false)) ⟨[], 0⟩)) :
  Ret cfg (n + 1) f_lex_digit [.s (.int .u8 a0)] ⟨[], 0⟩ Q :=
  vcRun_eq (fn := Tryz.f106) (asks := asks_lex_digit) (by kernel_rfl) (by kernel_rfl) (by kernel_rfl) (by kernel_rfl) (by kernel_rfl) h
end Go.Proofs.YtmjnfdjhaopeiaaGreatDoor.N0

namespace Go.Proofs.YtmjnfdjhaopeiaaGreatDoor.N0
open Go Go.Pvm
set_option maxRecDepth 100000
abbrev S0 : Store := ⟨[], 0⟩
theorem under_string' : prog.underlying t_string = some .string := by kernel_rfl
theorem wrap64 {z : Int} (h : -9223372036854775808 ≤ z ∧ z < 9223372036854775808) : IntKind.i64.wrap z = z := IntWalk.i64_in _ (by omega)

def lowB (c : UInt8) : Bool := decide (97 ≤ c.toNat ∧ c.toNat ≤ 122)
def upB (c : UInt8) : Bool := decide (65 ≤ c.toNat ∧ c.toNat ≤ 90)
def digB (c : UInt8) : Bool := decide (48 ≤ c.toNat ∧ c.toNat ≤ 57)

theorem lower_cl {n : Nat} (h : 1 ≤ n) (c : UInt8) (S : Store) : cl n f_lex_lower [.s (.int .u8 (c.toNat : Int))] S = some (bl (lowB c), S) := by
  obtain ⟨n, rfl⟩ : ∃ k, n = k + 1 := ⟨n - 1, by omega⟩
  refine cl_of (by kernel_rfl) rfl (Ret.eq (vc_lex_lower n _ _ (br_dec (fun _ => ⟨?_, rfl⟩) fun _ => ⟨?_, rfl⟩))) rfl
  · refine congrArg bl ?_; unfold lowB; rw [decide_eq_decide]; omega
  · refine congrArg bl ?_; unfold lowB; rw [decide_eq_false (by omega)]
theorem upper_cl {n : Nat} (h : 1 ≤ n) (c : UInt8) (S : Store) : cl n f_lex_upper [.s (.int .u8 (c.toNat : Int))] S = some (bl (upB c), S) := by
  obtain ⟨n, rfl⟩ : ∃ k, n = k + 1 := ⟨n - 1, by omega⟩
  refine cl_of (by kernel_rfl) rfl (Ret.eq (vc_lex_upper n _ _ (br_dec (fun _ => ⟨?_, rfl⟩) fun _ => ⟨?_, rfl⟩))) rfl
  · refine congrArg bl ?_; unfold upB; rw [decide_eq_decide]; omega
  · refine congrArg bl ?_; unfold upB; rw [decide_eq_false (by omega)]
theorem digit_cl {n : Nat} (h : 1 ≤ n) (c : UInt8) (S : Store) : cl n f_lex_digit [.s (.int .u8 (c.toNat : Int))] S = some (bl (digB c), S) := by
  obtain ⟨n, rfl⟩ : ∃ k, n = k + 1 := ⟨n - 1, by omega⟩
  refine cl_of (by kernel_rfl) rfl (Ret.eq (vc_lex_digit n _ _ (br_dec (fun _ => ⟨?_, rfl⟩) fun _ => ⟨?_, rfl⟩))) rfl
  · refine congrArg bl ?_; unfold digB; rw [decide_eq_decide]; omega
  · refine congrArg bl ?_; unfold digB; rw [decide_eq_false (by omega)]

def okC (small : Bool) (c : UInt8) : Bool := digB c || ((lowB c == small) && (lowB c || upB c))
def partP : List UInt8 → Bool
  | [] => false
  | c :: r => (lowB c || upB c) && (c :: r).all (okC (lowB c))

theorem part_lp (n : Nat) (s : ByteArray) (hn : 1 ≤ n) (hs : s.size ≤ 100) (small : Bool) (Q : PV → Store → Prop) : ∀ (r : List UInt8) (i m : Nat), s.data.toList.drop i = r → r.length < m → Q (bl (r.all (okC small))) S0 → L_lex_part_0 n m s small (i : Int) Q
  | [], i, m, hd, hm, hQ => by
    obtain ⟨m, rfl⟩ : ∃ k, m = k + 1 := ⟨m - 1, by omega⟩
    have := drop_len hd
    simp only [List.length_nil] at this
    have hlen : s.data.toList.length = s.size := by simp
    exact lp_lex_part_0 n m s _ _ Q (br_dec (fun h => absurd h (by omega)) fun _ => hQ)
  | c :: r, i, m, hd, hm, hQ => by
    obtain ⟨m, rfl⟩ : ∃ k, m = k + 1 := ⟨m - 1, by omega⟩
    obtain ⟨g1, g2, g3⟩ := drop_get hd
    have hlen : s.data.toList.length = s.size := by simp
    have hx : ld prog t_uint8 (s.data.toList.map fun b => .s (.int .u8 b.toNat)) (Int.toNat (i : Int) * 1) (.s (.int .u8 (c.toNat : Int))) := by
      rw [Int.toNat_natCast]; exact ld_map (f := fun b : UInt8 => .s (.int .u8 b.toNat)) (by kernel_rfl) g1
    have e1 : IntKind.i64.wrap ((i : Int) + 1) = ((i + 1 : Nat) : Int) := by rw [wrap64 (by omega)]; simp
    have go : okC small c = true → L_lex_part_0 n m s small (IntKind.i64.wrap ((i : Int) + 1)) Q := fun h => by
      rw [e1]
      refine part_lp n s hn hs small Q r (i + 1) m g2 (by simp at hm; omega) ?_
      rw [List.all_cons, h, Bool.true_and] at hQ; exact hQ
    have no : okC small c = false → Q (bl false) S0 := fun h => by rw [List.all_cons, h, Bool.false_and] at hQ; exact hQ
    have d := digit_cl hn c S0
    have l := lower_cl hn c S0
    have u := upper_cl hn c S0
    unfold okC at go no
    generalize digB c = dd at *
    generalize lowB c = ll at *
    generalize upB c = uu at *
    refine lp_lex_part_0 n m s _ _ Q (br_dec (fun _ => ⟨⟨by omega, by omega, by simp; omega⟩, _, hx, _, d, br_intro (fun k1 => ⟨_, l, br_intro (fun k2 => no ?_) fun k2 => ⟨_, d, br_intro (fun k3 => ⟨_, l, br_intro (fun k4 => ⟨_, u, br_intro (fun k5 => no ?_) fun k5 => go ?_⟩) fun k4 => go ?_⟩) fun k3 => go ?_⟩⟩)
      fun k1 => ⟨_, d, br_intro (fun k3 => ⟨_, l, br_intro (fun k4 => ⟨_, u, br_intro (fun k5 => no ?_) fun k5 => go ?_⟩) fun k4 => go ?_⟩) fun k3 => go ?_⟩⟩) fun h => absurd (by omega) h)
    all_goals (clear go no hQ d l u hx; cases dd <;> cases ll <;> cases uu <;> cases small <;> simp_all)

theorem part_run (n : Nat) (s : ByteArray) (hn : 200 ≤ n) (hs : s.size ≤ 100) : run cfg n f_lex_part [.s (.string s)] S0 = some (bl (partP s.data.toList), S0) := by
  obtain ⟨n, rfl⟩ : ∃ k, n = k + 1 := ⟨n - 1, by omega⟩
  have hlen : s.data.toList.length = s.size := by simp
  refine Ret.eq (vc_lex_part n s _ ?_)
  cases hl : s.data.toList with
  | nil =>
    have e : (s.toList == (ByteArray.mk #[]).toList) = true := by
      have : s = ByteArray.mk #[] := by
        cases s with | mk d => congr 1; apply Array.ext'; simpa using hl
      rw [this]; exact beq_self_eq_true _
    rw [e]
    exact ⟨rfl, rfl⟩
  | cons c r =>
    have e : (s.toList == (ByteArray.mk #[]).toList) = false := by
      rw [Bool.eq_false_iff]
      intro h
      have h2 := eq_of_beq h
      rw [Lib.toList_data, Lib.toList_data, hl] at h2
      cases h2
    rw [e]
    have hi := idx_str (t := t_string) under_string' (s := s) (i := 0) (c := c) (by rw [hl]; rfl)
    have l := lower_cl (n := n) (by omega) c S0
    have u := upper_cl (n := n) (by omega) c S0
    have lp : ∀ Q : PV → Store → Prop, Q (bl ((c :: r).all (okC (lowB c)))) S0 → L_lex_part_0 n n s (lowB c) (0 : Int) Q := fun Q hQ => part_lp n s (by omega) hs (lowB c) Q (c :: r) 0 n hl (by rw [← hl, hlen]; omega) hQ
    refine ⟨_, hi, _, l, br_intro (fun k1 => ⟨_, hi, _, u, br_intro (fun k2 => ⟨?_, rfl⟩) fun k2 => ⟨_, hi, _, l, lp _ ⟨?_, rfl⟩⟩⟩) fun k1 => ⟨_, hi, _, l, lp _ ⟨?_, rfl⟩⟩⟩
    · have h1 : lowB c = false := by simpa using k1
      have h2 : upB c = false := by simpa using k2
      simp [partP, h1, h2]
    · have h1 : lowB c = false := by simpa using k1
      have h2 : upB c = true := by simpa using k2
      simp [partP, h1, h2]
    · have h1 : lowB c = true := by simpa using k1
      simp [partP, h1]

/-! ### the call, whatever the tape -/
def env0 (w : World) : Env := { w, G := fun k => k < w.heap.size, sg := fun _ => none, z := fun _ => 0, S := ⟨[], 0⟩, L := [], l := fun _ => 0 }
theorem no_mod (w : World) (k : Nat) : ¬ Mod (env0 w) k := by
  rintro (⟨b, bx, h, _⟩ | ⟨d, cs, h, _⟩) <;> cases h
theorem inv0 (w : World) : Inv (env0 w) :=
  ⟨fun k hk => ⟨hk, no_mod w k⟩, fun b bx h => (by cases h), fun b b' bx bx' k h => (by cases h), fun d cs h => (by cases h), fun d d' cs cs' h => (by cases h), fun b bx d cs h => (by cases h)⟩

theorem part_calls (s : ByteArray) (hs : s.size ≤ 100) (w : World) : Calls Tryz.prog 87 #[.string s] w fun e w' => e = .returned (.bool (partP s.data.toList)) ∧ Go.RowKit.Below w.heap.size w w' := by
  have h := (run_sound (C := cfg) (fun f g h => (by cases h)) 200 87 [.s (.string s)] ⟨[], 0⟩ _ _ (part_run 200 s (by omega) hs) (env0 w) rfl rfl (inv0 w) (fun g cs h => (by cases h)) [.string s] ⟨_, [], rfl, rfl, rfl⟩).2
  refine h.mono fun e w' => ?_
  rintro ⟨v, E', rfl, rfl, _, _, hext, _, hv⟩
  exact ⟨by rw [show v = .bool (partP s.data.toList) from hv], hext.below (no_mod w)⟩

/-! ### parts of a text -/
def cuts : List UInt8 → List (List UInt8)
  | [] => [[]]
  | c :: r => if c = 45 then [] :: cuts r else match cuts r with
    | [] => [[c]]
    | p :: q => (c :: p) :: q

theorem cuts_cons : ∀ s : List UInt8, ∃ p q, cuts s = p :: q
  | [] => ⟨_, _, rfl⟩
  | c :: r => by
    obtain ⟨p, q, h⟩ := cuts_cons r
    simp only [cuts, h]
    split
    · exact ⟨_, _, rfl⟩
    · exact ⟨_, _, rfl⟩

def okK (sz : Nat) (c : UInt8) : Bool := decide (kindB c = sz ∨ kindB c = 3)
theorem okK_C {c d : UInt8} (h : kindB c = 1 ∨ kindB c = 2) : okC (lowB c) d = okK (kindB c) d := by
  unfold okC okK digB lowB upB
  have h1 : kindB c = 1 ↔ 97 ≤ c.toNat ∧ c.toNat ≤ 122 := by
    unfold kindB
    repeat' split
    all_goals omega
  have hd : ∀ k, kindB d = k ↔ (if 97 ≤ d.toNat ∧ d.toNat ≤ 122 then 1 else if 65 ≤ d.toNat ∧ d.toNat ≤ 90 then 2 else if 48 ≤ d.toNat ∧ d.toNat ≤ 57 then 3 else if d.toNat = 45 then 4 else if d.toNat = 46 then 5 else 0) = k := fun k => Iff.rfl
  rw [Bool.eq_iff_iff]
  simp only [Bool.or_eq_true, Bool.and_eq_true, decide_eq_true_eq, beq_iff_eq, decide_eq_decide]
  rcases h with h | h
  · rw [h, hd, hd]
    have := h1.1 h
    repeat' split
    all_goals omega
  · rw [h, hd, hd]
    have : ¬ (97 ≤ c.toNat ∧ c.toNat ≤ 122) := fun h' => by have := h1.2 h'; omega
    repeat' split
    all_goals omega
theorem partP_cons (c : UInt8) (r : List UInt8) : partP (c :: r) = (decide (kindB c = 1 ∨ kindB c = 2) && r.all (okK (kindB c))) := by
  by_cases h : kindB c = 1 ∨ kindB c = 2
  · have e : (lowB c || upB c) = true := by
      unfold lowB upB
      simp only [Bool.or_eq_true, decide_eq_true_eq]
      unfold kindB at h
      repeat' split at h
      all_goals omega
    have f : ∀ d, okC (lowB c) d = okK (kindB c) d := fun d => okK_C h
    have ff : okC (lowB c) = okK (kindB c) := funext f
    show ((lowB c || upB c) && (c :: r).all (okC (lowB c))) = _
    rw [e, ff, List.all_cons, decide_eq_true h]
    have : okK (kindB c) c = true := by unfold okK; simp
    rw [this]; simp
  · have e : (lowB c || upB c) = false := by
      rw [Bool.eq_false_iff]
      unfold lowB upB
      simp only [ne_eq, Bool.or_eq_true, decide_eq_true_eq]
      intro h'
      apply h
      unfold kindB
      repeat' split
      all_goals omega
    show ((lowB c || upB c) && (c :: r).all (okC (lowB c))) = _
    rw [e, decide_eq_false h]; simp

theorem kind45 {c : UInt8} : kindB c = 4 ↔ c = 45 := by
  have h : kindB c = 4 ↔ c.toNat = 45 := by
    unfold kindB
    repeat' split
    all_goals omega
  rw [h]
  constructor
  · intro h; exact UInt8.toNat_inj.1 (by rw [h]; rfl)
  · rintro rfl; rfl

theorem nameL_cuts : ∀ (s : List UInt8), (∀ sz, nameL s true sz = (cuts s).all partP) ∧ ∀ sz, sz = 1 ∨ sz = 2 → ∀ p q, cuts s = p :: q → nameL s false sz = (p.all (okK sz) && q.all partP)
  | [] => by
    refine ⟨fun sz => rfl, fun sz _ p q h => ?_⟩
    obtain ⟨rfl, rfl⟩ := List.cons.inj h
    rfl
  | c :: r => by
    obtain ⟨hA, hB⟩ := nameL_cuts r
    obtain ⟨p0, q0, hc⟩ := cuts_cons r
    constructor
    · intro sz
      simp only [nameL]
      by_cases h : kindB c = 1 ∨ kindB c = 2
      · rw [if_pos h, hB _ h p0 q0 hc]
        have h45 : c ≠ 45 := fun e => by have := kind45.2 e; omega
        simp only [cuts, if_neg h45, hc, List.all_cons, partP_cons, decide_eq_true h, Bool.true_and]
      · rw [if_neg h]
        simp only [cuts]
        split
        · simp [partP]
        · rw [hc]; simp [partP_cons, decide_eq_false h]
    · intro sz hsz p q h
      simp only [nameL]
      simp only [cuts] at h
      split at h
      · rename_i e
        obtain ⟨rfl, rfl⟩ := List.cons.inj h
        rw [if_pos (kind45.2 e), hA]; simp
      · rename_i e
        rw [hc] at h
        obtain ⟨rfl, rfl⟩ := List.cons.inj h
        rw [if_neg (fun h' => e (kind45.1 h'))]
        by_cases hk : kindB c = sz ∨ kindB c = 3
        · rw [if_pos hk, hB sz hsz p0 q0 hc]
          simp [okK, hk]
        · rw [if_neg hk]
          simp [okK, hk]

theorem nameOk_cuts (s : ByteArray) (h1 : 1 ≤ s.size) (h2 : s.size ≤ 100) : nameOk s = (cuts s.data.toList).all partP := by
  unfold nameOk
  rw [decide_eq_true h1, decide_eq_true h2, (nameL_cuts s.data.toList).1 0]; simp
end Go.Proofs.YtmjnfdjhaopeiaaGreatDoor.N0
