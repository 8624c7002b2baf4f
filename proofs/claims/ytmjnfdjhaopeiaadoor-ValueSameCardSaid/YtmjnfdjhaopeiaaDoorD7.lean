/-
  A part of the proof: D7.
-/
import Derived.Test.YtmjnfdjhaopeiaaDoorD6
import Derived.Shelf.Strings.OnBuilder
namespace Go.Proofs.YtmjnfdjhaopeiaaDoor
open Go Go.Pvm
set_option maxRecDepth 100000
def joinRen : Go.Shelf.Ren where
  f := fun x => match x with
    | 156 => 18
    | 165 => 37
    | 166 => 38
    | 169 => 39
    | 240 => 53
    | 241 => 54
    | 276 => 68
    | 277 => 69
    | n => n
  t := fun x => match x with
    | 31 => 33
    | 9 => 9
    | 3 => 3
    | 4 => 4
    | 0 => 0
    | 20 => 20
    | 72 => 64
    | 76 => 68
    | 70 => 61
    | 37 => 62
    | 75 => 67
    | 127 => 82
    | 164 => 101
    | 5 => 5
    | 80 => 70
    | n => n
  g := fun x => x
theorem joinLays : Go.Proofs.Lays.n156 Tryd.prog joinRen where
  mixed := by kernel_rfl
  f156 := by kernel_rfl
  f165 := by kernel_rfl
  f166 := by kernel_rfl
  f169 := by kernel_rfl
  f240 := by kernel_rfl
  f241 := by kernel_rfl
  f276 := by kernel_rfl
  f277 := by kernel_rfl
  t0 := Tryd.underlying0
  a0 := Tryd.isAgg0
  z0 := Tryd.sizeOf0
  v0 := Tryd.zeroValue0
  t3 := Tryd.underlying3
  a3 := Tryd.isAgg3
  z3 := Tryd.sizeOf3
  v3 := Tryd.zeroValue3
  t4 := Tryd.underlying4
  a4 := Tryd.isAgg4
  z4 := Tryd.sizeOf4
  v4 := Tryd.zeroValue4
  t9 := Tryd.underlying9
  a9 := Tryd.isAgg9
  z9 := Tryd.sizeOf9
  v9 := Tryd.zeroValue9
  t20 := Tryd.underlying20
  a20 := Tryd.isAgg20
  z20 := Tryd.sizeOf20
  v20 := Tryd.zeroValue20
  t31 := Tryd.underlying33
  a31 := Tryd.isAgg33
  z31 := Tryd.sizeOf33
  v31 := Tryd.zeroValue33
  t37 := Tryd.underlying62
  a37 := Tryd.isAgg62
  z37 := Tryd.sizeOf62
  v37 := Tryd.zeroValue62
  t70 := Tryd.underlying61
  a70 := Tryd.isAgg61
  z70 := Tryd.sizeOf61
  v70 := Tryd.zeroValue61
  t72 := Tryd.underlying64
  a72 := Tryd.isAgg64
  z72 := Tryd.sizeOf64
  v72 := Tryd.zeroValue64
  t75 := Tryd.underlying67
  a75 := Tryd.isAgg67
  z75 := Tryd.sizeOf67
  v75 := Tryd.zeroValue67
  t76 := Tryd.underlying68
  a76 := Tryd.isAgg68
  z76 := Tryd.sizeOf68
  v76 := Tryd.zeroValue68
  t127 := Tryd.underlying82
  a127 := Tryd.isAgg82
  z127 := Tryd.sizeOf82
  v127 := Tryd.zeroValue82
  t164 := Tryd.underlying101
  a164 := Tryd.isAgg101
  z164 := Tryd.sizeOf101
  v164 := Tryd.zeroValue101
theorem joinExtra : Go.Proofs.Builder.Extra Tryd.prog joinRen where
  sizeBuilder := by kernel_rfl
  liesBuilder := by kernel_rfl
  t5 := Tryd.underlying5
  a5 := Tryd.isAgg5
  z5 := Tryd.sizeOf5
  v5 := Tryd.zeroValue5
  infoByte := by kernel_rfl
  cellsByte := by kernel_rfl
  sizeByte := by kernel_rfl
  neB5 := by decide

theorem intrOK : IntrOK cfg := by
  intro f g hg args S r S' h E hS hL hI _ vs hv
  have hf : f = 18 ∧ g = joinI := by
    by_cases e : f = 18
    · subst e
      exact ⟨rfl, (Option.some.inj ((show cfg.intr 18 = some joinI by kernel_rfl).symm.trans hg)).symm⟩
    · have : cfg.intr f = none := by show (if f = 18 then some joinI else none) = none; rw [if_neg e]
      rw [this] at hg; cases hg
  obtain ⟨rfl, rfl⟩ := hf
  refine ⟨⟨Tryd.f18, by kernel_rfl, by kernel_rfl, ?_⟩, joinI_ok joinLays joinExtra h hS hL hI hv⟩
  exact of_decide_eq_true (by kernel_rfl)

/-- What a call of the law does, whatever the tape. -/
theorem law_calls (a b : Vl) {E : Env} (hS : E.S = ⟨[], 0⟩) (hL : E.L = []) (hI : Inv E) (hG : Glob cfg E) {v0 v1 : Value} (h0 : W E (.agg a.cells) v0) (h1 : W E (.agg b.cells) v1) :
    Calls Tryd.prog 3 #[v0, v1] E.w fun e w' => e = .returned (.bool true) ∧ ∃ E', E'.w = w' ∧ Ext E E' := by
  have h := (run_sound intrOK 30001 3 [.agg a.cells, .agg b.cells] ⟨[], 0⟩ _ _ (valueSame_run a b) E hS hL hI hG [v0, v1] ⟨v0, [v1], rfl, h0, v1, [], rfl, h1, rfl⟩).2
  refine h.mono fun e w' => ?_
  rintro ⟨v, E', rfl, rfl, _, _, hext, _, hv⟩
  exact ⟨by rw [show v = .bool true from hv], E', rfl, hext⟩
end Go.Proofs.YtmjnfdjhaopeiaaDoor
