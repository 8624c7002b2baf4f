/-
  A part of the proof: Pz2, Pz3.
-/
import Derived.Test.YtmjnfdjhaopeiaaGreatDoorVc2
import Derived.Test.YtmjnfdjhaopeiaaGreatDoorPy1
import Derived.Test.YtmjnfdjhaopeiaaGreatDoorPz1
/-
  Types of components as trees; lists in cells; small lemmas.
-/
namespace Go.Pvm
open Go

theorem br_iff {t : Bool} {A B : Prop} : br t A B ↔ (t = true → A) ∧ (t = false → B) := by
  cases t <;> simp [br]

theorem br_true {A B : Prop} (h : A) : br true A B := h
theorem br_false {A B : Prop} (h : B) : br false A B := h

theorem br_dec {p : Prop} [Decidable p] {A B : Prop} (h : p → A) (k : ¬ p → B) : br (decide p) A B := by
  by_cases hp : p
  · simp only [hp, decide_true]; exact h hp
  · simp only [hp, decide_false]; exact k hp
theorem br_ndec {p : Prop} [Decidable p] {A B : Prop} (h : ¬ p → A) (k : p → B) : br (!decide p) A B := by
  by_cases hp : p
  · simp only [hp, decide_true]; exact k hp
  · simp only [hp, decide_false]; exact h hp

/-- A call that runs alone. -/
theorem cl_of {C : Cfg} {n : Nat} {g : FuncId} {args : List PV} {S : Store} {r : PV} (hf : C.full g = false) (hp : pureL? args = true) (h : run C n g args ⟨[], 0⟩ = some (r, ⟨[], 0⟩)) (hr : frz ⟨[], 0⟩ 9 r = some r) :
    callF C (run C n) g args S = some (r, S) := callF_pure hf hp h hr

theorem drop_get {α : Type} {l : List α} {i : Nat} {v : α} {r : List α} (h : l.drop i = v :: r) : l[i]? = some v ∧ l.drop (i + 1) = r ∧ i < l.length := by
  have h1 : (l.drop i)[0]? = some v := by rw [h]; rfl
  rw [List.getElem?_drop] at h1
  refine ⟨by simpa using h1, ?_, ?_⟩
  · rw [show i + 1 = i + 1 from rfl, ← List.drop_drop, h]; rfl
  · have := (List.getElem?_eq_some_iff.1 h1).1; omega

theorem drop_len {α : Type} {l r : List α} {i : Nat} (h : l.drop i = r) : r.length = l.length - i := by rw [← h]; simp

/-! ### elements in cells -/
def cat {α : Type} (f : α → List PV) : List α → List PV
  | [] => []
  | x :: l => f x ++ cat f l

theorem cat_len {α : Type} {f : α → List PV} {k : Nat} (hk : ∀ x, (f x).length = k) : ∀ l : List α, (cat f l).length = l.length * k
  | [] => by simp [cat]
  | x :: l => by simp [cat, hk, cat_len hk l, Nat.add_mul]; omega

theorem cat_append {α : Type} {f : α → List PV} : ∀ a b : List α, cat f (a ++ b) = cat f a ++ cat f b
  | [], b => rfl
  | x :: a, b => by simp [cat, cat_append a b]

theorem cat_at {α : Type} {f : α → List PV} {k : Nat} (hk : ∀ x, (f x).length = k) {l : List α} {i : Nat} {x : α} (h : l[i]? = some x) : ((cat f l).drop (i * k)).take k = f x := by
  induction l generalizing i with
  | nil => simp at h
  | cons y l ih =>
    cases i with
    | zero =>
      simp only [List.getElem?_cons_zero, Option.some.injEq] at h
      subst h
      simp only [cat, Nat.zero_mul, List.drop_zero]
      rw [List.take_append_of_le_length (by rw [hk]; omega), List.take_of_length_le (by rw [hk]; omega)]
    | succ i =>
      simp only [List.getElem?_cons_succ] at h
      rw [← ih h]
      simp only [cat]
      rw [show (i + 1) * k = k + i * k by rw [Nat.add_mul]; omega, ← List.drop_drop]
      congr 2
      rw [List.drop_append_of_le_length (by rw [hk]; omega), List.drop_of_length_le (by rw [hk]; omega)]
      simp

theorem ld_agg {P : Program} {t : TypeId} {cs : List PV} {off n : Nat} {q : List PV} (ha : agg? P t = some true) (hs : size? P t = some n) (h : off + n ≤ cs.length) (hq : (cs.drop off).take n = q) : ld P t cs off (.agg q) := by
  unfold ld loadO
  simp only [addrCells, ha, hs]
  rw [if_pos h, hq]

theorem ld_one {P : Program} {t : TypeId} {cs : List PV} {off : Nat} {p : PV} (ha : agg? P t = some false) (h : cs[off]? = some p) : ld P t cs off p := by
  unfold ld loadO
  simp only [addrCells, ha]
  exact h

theorem ld_cat {α : Type} {f : α → List PV} {k : Nat} (hk : ∀ x, (f x).length = k) {P : Program} {t : TypeId} (ha : agg? P t = some true) (hs : size? P t = some k) {l : List α} {i : Nat} {x : α} (h : l[i]? = some x) : ld P t (cat f l) (i * k) (.agg (f x)) := by
  have hi := (List.getElem?_eq_some_iff.1 h).1
  refine ld_agg ha hs ?_ (cat_at hk h)
  rw [cat_len hk]
  calc i * k + k = (i + 1) * k := by rw [Nat.add_mul]; omega
    _ ≤ l.length * k := Nat.mul_le_mul_right _ hi

theorem ld_map {α : Type} {f : α → PV} {P : Program} {t : TypeId} (ha : agg? P t = some false) {l : List α} {i : Nat} {x : α} (h : l[i]? = some x) : ld P t (l.map f) (i * 1) (f x) := by
  refine ld_one ha ?_
  simp [h]

theorem idx_str {P : Program} {t : TypeId} (ht : P.underlying t = some .string) {s : ByteArray} {i : Nat} {c : UInt8} (h : s.data.toList[i]? = some c) : indexO P t (.s (.string s)) (i64 (i : Int)) = some (.s (.int .u8 (c.toNat : Int))) := by
  have hi := (List.getElem?_eq_some_iff.1 h).1
  have hi' : i < s.size := by simpa using hi
  have hc : s[i]? = some c := by
    rw [getElem?_pos s i hi']
    have := (List.getElem?_eq_some_iff.1 h).2
    rw [← this]; rfl
  unfold indexO
  simp only [ht, Int.toNat_natCast]
  rw [if_pos (by omega), hc]

abbrev str (s : ByteArray) : PV := .s (.string s)
abbrev bl (b : Bool) : PV := .s (.bool b)

/-- api.Type: its kind, names, types, a number. -/
inductive Tt where
  | mk (K : Int) (un : Bool) (nm : List ByteArray) (ul : Bool) (l : List Tt) (R : Int)

mutual
def Tt.cells : Tt → List PV
  | .mk K un nm ul l R => [i64 K, .sl un nm.length (nm.map str), .sl ul l.length (tcells l), i64 R]
def tcells : List Tt → List PV
  | [] => []
  | v :: r => v.cells ++ tcells r
end
def Tt.K : Tt → Int | .mk K _ _ _ _ _ => K
def Tt.nm : Tt → List ByteArray | .mk _ _ nm _ _ _ => nm
def Tt.l : Tt → List Tt | .mk _ _ _ _ l _ => l
def Tt.R : Tt → Int | .mk _ _ _ _ _ R => R

theorem tcells_cat : ∀ l : List Tt, tcells l = cat Tt.cells l
  | [] => rfl
  | v :: r => by simp [tcells, cat, tcells_cat r]
theorem tcell_len (v : Tt) : v.cells.length = 4 := by cases v; simp [Tt.cells]
theorem pure_tcells (t : Tt) : pureL? t.cells = true := by cases t; simp [Tt.cells, pureL?, pure?]
theorem cellsL_cat : ∀ l : List Vl, cellsL l = cat Vl.cells l
  | [] => rfl
  | v :: r => by simp [cellsL, cat, cellsL_cat r]
def Vl.N : Vl → Int | .mk N _ _ _ _ => N
def Vl.S : Vl → List Int | .mk _ _ s _ _ => s
def Vl.L : Vl → List Vl | .mk _ _ _ _ l => l

mutual
/-- Its lists are no longer than lists may be. -/
def Tt.fits : Tt → Prop
  | .mk _ _ nm _ l _ => nm.length ≤ 140737488355328 ∧ l.length ≤ 140737488355328 ∧ tfits l
def tfits : List Tt → Prop
  | [] => True
  | v :: r => v.fits ∧ tfits r
end
theorem tfits_mem : ∀ {l : List Tt} {v : Tt}, tfits l → v ∈ l → v.fits
  | [], v, _, h => by cases h
  | u :: r, v, hf, h => by
    rcases List.mem_cons.1 h with rfl | h
    · exact hf.1
    · exact tfits_mem hf.2 h

mutual
/-- How many nodes and names there are, one more for each list. -/
def Tt.sz : Tt → Nat
  | .mk _ _ nm _ l _ => 2 + nm.length + tsz l
def tsz : List Tt → Nat
  | [] => 0
  | v :: r => 1 + v.sz + tsz r
end
theorem tsz_len : ∀ l : List Tt, l.length ≤ tsz l
  | [] => Nat.zero_le _
  | v :: r => by have := tsz_len r; simp [tsz]; omega
theorem tsz_mem : ∀ {l : List Tt} {v : Tt}, v ∈ l → v.sz ≤ tsz l
  | [], v, h => by cases h
  | u :: r, v, h => by
    rcases List.mem_cons.1 h with rfl | h
    · simp [tsz]; omega
    · have := tsz_mem h; simp [tsz]; omega
end Go.Pvm

/-
  What is handed back out of boxes.
-/
namespace Go.Pvm
open Go

def solid : PV → Bool
  | .s _ => true
  | .sl _ _ _ => true
  | _ => false

theorem frz_solid {S : Store} {k : Nat} {p : PV} (h : solid p = true) : frz S (k + 1) p = some p := by
  unfold solid at h
  split at h
  · rfl
  · rfl
  · cases h

theorem mapM_solid {S : Store} {k : Nat} : ∀ {cs : List PV}, cs.all solid = true → cs.mapM (frz S (k + 1)) = some cs
  | [], _ => rfl
  | c :: r, h => by
    simp only [List.all_cons, Bool.and_eq_true] at h
    rw [List.mapM_cons, frz_solid h.1, mapM_solid h.2]; rfl

theorem frz_bsl {S : Store} {k b ver m : Nat} {bx : Box} {cs : List PV} (hb : S.get b = some bx) (hv : bx.ver = ver) (hc : bx.cs.take (m * bx.esz) = cs) (hl : m * bx.esz ≤ bx.cs.length) (hs : cs.all solid = true) :
    frz S (k + 2) (.bsl b ver 0 m) = some (.sl false m cs) := by
  unfold frz
  simp only [hb]
  rw [if_pos ⟨hv, by omega⟩, List.drop_zero, hc, mapM_solid hs]; rfl

/-- A call whose result comes out of boxes. -/
theorem cl_frz {C : Cfg} {n : Nat} {g : FuncId} {args : List PV} {S S1 : Store} {r r' : PV} (hf : C.full g = false) (hp : pureL? args = true) (h : run C n g args ⟨[], 0⟩ = some (r, S1)) (hr : frz S1 9 r = some r') :
    callF C (run C n) g args S = some (r', S) := callF_pure hf hp h hr

theorem tcells_solid : ∀ l : List Tt, (tcells l).all solid = true
  | [] => rfl
  | ⟨K, un, nm, ul, l, R⟩ :: r => by simp [tcells, Tt.cells, solid, tcells_solid r]
theorem tcells_oneC : ∀ l : List Tt, (tcells l).all oneC = true
  | [] => rfl
  | ⟨K, un, nm, ul, l, R⟩ :: r => by simp [tcells, Tt.cells, oneC, Value.oneCell', tcells_oneC r]
theorem cell_oneC (t : Tt) : t.cells.all oneC = true := by
  obtain ⟨K, un, nm, ul, l, R⟩ := t
  simp [Tt.cells, oneC, Value.oneCell']
theorem strs_oneC (l : List ByteArray) : (l.map str).all oneC = true := by simp [oneC, Value.oneCell']
theorem strs_solid (l : List ByteArray) : (l.map str).all solid = true := by simp [solid]
theorem tcells_append (a b : List Tt) : tcells (a ++ b) = tcells a ++ tcells b := by rw [tcells_cat, tcells_cat, tcells_cat, cat_append]
theorem tcells_length (l : List Tt) : (tcells l).length = l.length * 4 := by rw [tcells_cat, cat_len tcell_len]
theorem tcells_one (t : Tt) : tcells [t] = t.cells := by simp [tcells]

/-- api.Type{} -/
def zeroT : Tt := .mk 0 true [] true [] 0
theorem rep_tcells : ∀ n : Nat, rep n [i64 0, .sl true 0 [], .sl true 0 [], i64 0] = tcells (List.replicate n zeroT)
  | 0 => rfl
  | n + 1 => by
    rw [List.replicate_succ]
    simp only [rep, tcells]
    rw [rep_tcells n]; rfl

theorem splice_tcells (a b c : List Tt) (h : c.length ≤ b.length) : splice (tcells (a ++ b)) (a.length * 4) (tcells c) = tcells (a ++ (c ++ b.drop c.length)) := by
  unfold splice
  have h1 : (tcells (a ++ b)).take (a.length * 4) = tcells a := by
    rw [tcells_append, List.take_append_of_le_length (by rw [tcells_length]; omega), List.take_of_length_le (by rw [tcells_length]; omega)]
  have h2 : (tcells (a ++ b)).drop (a.length * 4 + (tcells c).length) = tcells (b.drop c.length) := by
    conv => lhs; rw [← List.take_append_drop c.length b, ← List.append_assoc, tcells_append]
    rw [List.drop_append_of_le_length (by rw [tcells_length, tcells_length, List.length_append, List.length_take, Nat.min_eq_left h]; omega)]
    rw [List.drop_of_length_le (by rw [tcells_length, tcells_length, List.length_append, List.length_take, Nat.min_eq_left h]; omega), List.nil_append]
  rw [h1, h2, tcells_append, tcells_append, List.append_assoc]
end Go.Pvm
