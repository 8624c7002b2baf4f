/-
  A part of the proof: Py1.
-/
import Derived.Test.YtmjnfdjhaopeiaaGreatDoorPx3
import Derived.IntWalk
/-
  Values of components' types, as trees.
-/
namespace Go.Pvm
open Go

/-- api.Val: a number, a text's signs, items. 'us', 'ul': has the slice no spare place? -/
inductive Vl where
  | mk (N : Int) (us : Bool) (ss : List Int) (ul : Bool) (l : List Vl)

abbrev i64 (n : Int) : PV := .s (.int .i64 n)
abbrev yes : RV := .v (.s (.bool true))
abbrev no : RV := .v (.s (.bool false))
def idl (F : Fr) : X × Fr := (.normal, F)

mutual
def Vl.cells : Vl → List PV
  | .mk N us ss ul l => [i64 N, .sl us ss.length (ss.map i64), .sl ul l.length (cellsL l)]
def cellsL : List Vl → List PV
  | [] => []
  | v :: r => v.cells ++ cellsL r
end

mutual
def wt : Vl → Int → Int
  | .mk _ _ ss _ l, deep => if 20 < deep ∨ 20000 < (ss.length : Int) ∨ 20000 < (l.length : Int) then 1073741824 else wtL l (deep + 1) (1 + ss.length)
def wtL : List Vl → Int → Int → Int
  | [], _, acc => acc
  | v :: r, deep, acc => if acc ≤ 20000 then wtL r deep (acc + wt v deep) else acc
end

theorem cells_len (v : Vl) : v.cells.length = 3 := by cases v; simp [Vl.cells]

theorem cellsL_len : ∀ l : List Vl, (cellsL l).length = 3 * l.length
  | [] => rfl
  | v :: r => by simp [cellsL, cells_len, cellsL_len r]; omega

theorem cellsL_append : ∀ (a b : List Vl), cellsL (a ++ b) = cellsL a ++ cellsL b
  | [], b => rfl
  | v :: a, b => by simp [cellsL, cellsL_append a b]

theorem cellsL_at (a : List Vl) (v : Vl) (r : List Vl) : ((cellsL (a ++ v :: r)).drop (a.length * 3)).take 3 = v.cells := by
  rw [cellsL_append, List.drop_append_of_le_length (by rw [cellsL_len]; omega), List.drop_of_length_le (by rw [cellsL_len]; omega)]
  simp only [List.nil_append, cellsL]
  rw [List.take_append_of_le_length (by rw [cells_len]; omega), List.take_of_length_le (by rw [cells_len]; omega)]

mutual
theorem wt_pos : ∀ (v : Vl) (deep : Int), 1 ≤ wt v deep
  | .mk _ _ ss _ l, deep => by
    simp only [wt]
    split
    · omega
    · have := wtL_ge l (deep + 1) (1 + ss.length); omega
theorem wtL_ge : ∀ (l : List Vl) (deep acc : Int), acc ≤ wtL l deep acc
  | [], _, acc => by simp [wtL]
  | v :: r, deep, acc => by
    simp only [wtL]
    split
    · have h1 := wt_pos v deep
      have h2 := wtL_ge r deep (acc + wt v deep)
      omega
    · omega
end

mutual
theorem wt_le : ∀ (v : Vl) (deep : Int), deep ≤ 21 → wt v deep ≤ 1073741824 + 20001 * (21 - deep)
  | .mk _ _ ss _ l, deep, hd => by
    simp only [wt]
    split
    · omega
    · have := wtL_le l (deep + 1) (1 + ss.length) (by omega) (by omega)
      omega
theorem wtL_le : ∀ (l : List Vl) (deep acc : Int), deep ≤ 21 → acc ≤ 20001 + 1073741824 + 20001 * (21 - deep) → wtL l deep acc ≤ 20001 + 1073741824 + 20001 * (21 - deep)
  | [], _, acc, _, h => by simpa [wtL] using h
  | v :: r, deep, acc, hd, h => by
    simp only [wtL]
    split
    · have h1 := wt_le v deep hd
      exact wtL_le r deep _ hd (by omega)
    · exact h
end

mutual
/-- Two values are the same. -/
def same : Vl → Vl → Bool
  | .mk N _ s _ l, .mk N' _ s' _ l' => decide (N = N') && (decide (s = s') && sameL l l')
def sameL : List Vl → List Vl → Bool
  | [], [] => true
  | a :: r, b :: q => same a b && sameL r q
  | _, _ => false
end

mutual
/-- Not too much within, for so many levels. -/
def okV : Vl → Nat → Prop
  | .mk _ _ ss _ l, d => ss.length ≤ 20000 ∧ l.length ≤ 20000 ∧ 1 ≤ d ∧ okL l (d - 1)
def okL : List Vl → Nat → Prop
  | [], _ => True
  | v :: r, d => okV v d ∧ okL r d
end

mutual
theorem ok_of_wt : ∀ (v : Vl) (deep d : Nat), d + deep = 21 → wt v deep ≤ 20000 → okV v d
  | .mk N us ss ul l, deep, d, hd, h => by
    simp only [wt] at h
    split at h
    · omega
    · rename_i hc
      refine ⟨by omega, by omega, by omega, okL_of_wt l (deep + 1) (d - 1) (1 + ss.length) (by omega) (by omega) (by rw [show ((deep + 1 : Nat) : Int) = deep + 1 by omega]; exact h)⟩
theorem okL_of_wt : ∀ (l : List Vl) (deep d : Nat) (acc : Int), 0 ≤ acc → d + deep = 21 → wtL l deep acc ≤ 20000 → okL l d
  | [], _, _, _, _, _, _ => trivial
  | v :: r, deep, d, acc, hp, hd, h => by
    simp only [wtL] at h
    split at h
    · rename_i ha
      have h1 := wtL_ge r deep (acc + wt v deep)
      have h2 := wt_pos v deep
      exact ⟨ok_of_wt v deep d hd (by omega), okL_of_wt r deep d _ (by omega) hd h⟩
    · omega
end

mutual
theorem pure_cells : ∀ v : Vl, pureL? v.cells = true
  | .mk N us ss ul l => by simp [Vl.cells, pureL?, pure?]
end
end Go.Pvm
