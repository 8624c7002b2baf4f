/-
  A part of the proof: Z19, Z20.
-/
import Derived.Test.YtmjnfdjhaopeiaaGreatDoorZ18
import Derived.Test.YtmjnfdjhaopeiaaGreatDoorPz4
import Derived.Test.YtmjnfdjhaopeiaaGreatDoorNB
import Derived.Shelf.Strings.OnBuilder
namespace Go.Proofs.YtmjnfdjhaopeiaaGreatDoor
open Go Go.Pvm
set_option maxRecDepth 100000
def joinRen : Go.Shelf.Ren where
  f := fun x => match x with
    | 156 => 57
    | 165 => 76
    | 166 => 77
    | 169 => 78
    | 240 => 92
    | 241 => 93
    | 276 => 107
    | 277 => 108
    | n => n
  t := fun x => match x with
    | 31 => 22
    | 72 => 97
    | 76 => 101
    | 70 => 94
    | 37 => 95
    | 75 => 100
    | 127 => 117
    | 164 => 131
    | 80 => 103
    | n => n
  g := fun x => x
theorem joinLays : Go.Proofs.Lays.n156 Tryz.prog joinRen where
  mixed := by kernel_rfl
  f156 := by kernel_rfl
  f165 := by kernel_rfl
  f166 := by kernel_rfl
  f169 := by kernel_rfl
  f240 := by kernel_rfl
  f241 := by kernel_rfl
  f276 := by kernel_rfl
  f277 := by kernel_rfl
  t0 := Tryz.underlying0
  a0 := Tryz.isAgg0
  z0 := Tryz.sizeOf0
  v0 := Tryz.zeroValue0
  t3 := Tryz.underlying3
  a3 := Tryz.isAgg3
  z3 := Tryz.sizeOf3
  v3 := Tryz.zeroValue3
  t4 := Tryz.underlying4
  a4 := Tryz.isAgg4
  z4 := Tryz.sizeOf4
  v4 := Tryz.zeroValue4
  t9 := Tryz.underlying9
  a9 := Tryz.isAgg9
  z9 := Tryz.sizeOf9
  v9 := Tryz.zeroValue9
  t20 := Tryz.underlying20
  a20 := Tryz.isAgg20
  z20 := Tryz.sizeOf20
  v20 := Tryz.zeroValue20
  t31 := Tryz.underlying22
  a31 := Tryz.isAgg22
  z31 := Tryz.sizeOf22
  v31 := Tryz.zeroValue22
  t37 := Tryz.underlying95
  a37 := Tryz.isAgg95
  z37 := Tryz.sizeOf95
  v37 := Tryz.zeroValue95
  t70 := Tryz.underlying94
  a70 := Tryz.isAgg94
  z70 := Tryz.sizeOf94
  v70 := Tryz.zeroValue94
  t72 := Tryz.underlying97
  a72 := Tryz.isAgg97
  z72 := Tryz.sizeOf97
  v72 := Tryz.zeroValue97
  t75 := Tryz.underlying100
  a75 := Tryz.isAgg100
  z75 := Tryz.sizeOf100
  v75 := Tryz.zeroValue100
  t76 := Tryz.underlying101
  a76 := Tryz.isAgg101
  z76 := Tryz.sizeOf101
  v76 := Tryz.zeroValue101
  t127 := Tryz.underlying117
  a127 := Tryz.isAgg117
  z127 := Tryz.sizeOf117
  v127 := Tryz.zeroValue117
  t164 := Tryz.underlying131
  a164 := Tryz.isAgg131
  z164 := Tryz.sizeOf131
  v164 := Tryz.zeroValue131
theorem joinExtra : Go.Proofs.Builder.Extra Tryz.prog joinRen where
  sizeBuilder := by kernel_rfl
  liesBuilder := by kernel_rfl
  t5 := Tryz.underlying5
  a5 := Tryz.isAgg5
  z5 := Tryz.sizeOf5
  v5 := Tryz.zeroValue5
  infoByte := by kernel_rfl
  cellsByte := by kernel_rfl
  sizeByte := by kernel_rfl
  neB5 := by decide

def renInt : Go.Shelf.Ren where
  f := fun _ => 49
  t := fun x => match x with
    | 22 => 31
    | 23 => 3
    | n => n
  g := fun x => x
theorem cloneInt : CloneAt Tryz.prog renInt 1 where
  L := { mixed := by kernel_rfl, f41 := ⟨ "slices.Clone[[]int,int]", by decide, by kernel_rfl⟩, t4 := Tryz.underlying4, a4 := Tryz.isAgg4, z4 := Tryz.sizeOf4, v4 := Tryz.zeroValue4, t22 := Tryz.underlying31, a22 := Tryz.isAgg31, z22 := Tryz.sizeOf31, v22 := Tryz.zeroValue31 }
  ex := ⟨(Tryz.prog.info? 3).getD default, (((Tryz.prog.info? 3).getD default).zero).getD default, ((Tryz.prog.info? 3).getD default).bytes, by kernel_rfl, by kernel_rfl, by kernel_rfl, rfl, by kernel_rfl, Nat.le_of_ble_eq_true (by kernel_rfl)⟩
  pos := by decide
  z23 := Tryz.sizeOf3

def renStr : Go.Shelf.Ren where
  f := fun _ => 74
  t := fun x => match x with
    | 22 => 22
    | 23 => 9
    | n => n
  g := fun x => x
theorem cloneStr : CloneAt Tryz.prog renStr 1 where
  L := { mixed := by kernel_rfl, f41 := ⟨ "slices.Clone[[]string,string]", by decide, by kernel_rfl⟩, t4 := Tryz.underlying4, a4 := Tryz.isAgg4, z4 := Tryz.sizeOf4, v4 := Tryz.zeroValue4, t22 := Tryz.underlying22, a22 := Tryz.isAgg22, z22 := Tryz.sizeOf22, v22 := Tryz.zeroValue22 }
  ex := ⟨(Tryz.prog.info? 9).getD default, (((Tryz.prog.info? 9).getD default).zero).getD default, ((Tryz.prog.info? 9).getD default).bytes, by kernel_rfl, by kernel_rfl, by kernel_rfl, rfl, by kernel_rfl, Nat.le_of_ble_eq_true (by kernel_rfl)⟩
  pos := by decide
  z23 := Tryz.sizeOf9

def renTyp : Go.Shelf.Ren where
  f := fun _ => 75
  t := fun x => match x with
    | 22 => 23
    | 23 => 25
    | n => n
  g := fun x => x
theorem cloneTyp : CloneAt Tryz.prog renTyp 4 where
  L := { mixed := by kernel_rfl, f41 := ⟨ "slices.Clone[[]scarf/api.Type,scarf/api.Type]", by decide, by kernel_rfl⟩, t4 := Tryz.underlying4, a4 := Tryz.isAgg4, z4 := Tryz.sizeOf4, v4 := Tryz.zeroValue4, t22 := Tryz.underlying23, a22 := Tryz.isAgg23, z22 := Tryz.sizeOf23, v22 := Tryz.zeroValue23 }
  ex := ⟨(Tryz.prog.info? 25).getD default, (((Tryz.prog.info? 25).getD default).zero).getD default, ((Tryz.prog.info? 25).getD default).bytes, by kernel_rfl, by kernel_rfl, by kernel_rfl, rfl, by kernel_rfl, Nat.le_of_ble_eq_true (by kernel_rfl)⟩
  pos := by decide
  z23 := Tryz.sizeOf25
end Go.Proofs.YtmjnfdjhaopeiaaGreatDoor

namespace Go.Proofs.YtmjnfdjhaopeiaaGreatDoor
open Go Go.Pvm
set_option maxRecDepth 100000

theorem nameI_ok {args : List PV} {S S' : Store} {r : PV} (h : nameI args S = some (r, S')) {E : Env} (hS : E.S = S) (hL : E.L = []) (hI : Inv E) {vs : List Value} (hv : WL E args vs) :
    Calls Tryz.prog 68 vs.toArray E.w (CallPost E r S') := by
  unfold nameI at h
  split at h
  · rename_i s
    obtain ⟨rfl, rfl⟩ := Prod.mk.inj (Option.some.inj h)
    obtain ⟨v1, r1, rfl, hv1, rfl⟩ := hv
    obtain rfl : v1 = .string s := hv1
    refine (N0.name_calls s E.w).mono ?_
    rintro e w' ⟨rfl, hb⟩
    have st := Step.below hI hb
    exact ⟨_, { E with w := w' }, rfl, rfl, hS, hL, st.ext, st.inv, rfl⟩
  · cases h

theorem intrOK : IntrOK cfg := by
  intro f g hg args S r S' h E hS hL hI _ vs hv
  have hg' : intrOf f = some g := hg
  unfold intrOf at hg'
  split at hg'
  · rename_i e; subst e; obtain rfl := Option.some.inj hg'
    exact ⟨⟨Tryz.f57, by kernel_rfl, by kernel_rfl, of_decide_eq_true (by kernel_rfl)⟩, joinI_ok joinLays joinExtra h hS hL hI hv⟩
  split at hg'
  · rename_i e; subst e; obtain rfl := Option.some.inj hg'
    exact ⟨⟨Tryz.f68, by kernel_rfl, by kernel_rfl, of_decide_eq_true (by kernel_rfl)⟩, nameI_ok h hS hL hI hv⟩
  split at hg'
  · rename_i e; subst e; obtain rfl := Option.some.inj hg'
    exact ⟨⟨Tryz.f49, by kernel_rfl, by kernel_rfl, of_decide_eq_true (by kernel_rfl)⟩, cloneI_ok cloneInt h hS hL hI hv⟩
  split at hg'
  · rename_i e; subst e; obtain rfl := Option.some.inj hg'
    exact ⟨⟨Tryz.f74, by kernel_rfl, by kernel_rfl, of_decide_eq_true (by kernel_rfl)⟩, cloneI_ok cloneStr h hS hL hI hv⟩
  split at hg'
  · rename_i e; subst e; obtain rfl := Option.some.inj hg'
    exact ⟨⟨Tryz.f75, by kernel_rfl, by kernel_rfl, of_decide_eq_true (by kernel_rfl)⟩, cloneI_ok cloneTyp h hS hL hI hv⟩
  cases hg'

/-- A call of ValueArgs, whatever the tape. -/
theorem valueArgs_calls (s : Sg) (u : Bool) (L : List Vl) (hf : s.fits) (hvf : ∀ v ∈ L, v.fits) {E : Env} (hS : E.S = ⟨[], 0⟩) (hL : E.L = []) (hI : Inv E) (hG : Glob cfg E) {v0 v1 : Value}
    (h0 : W E (.agg s.cells) v0) (h1 : W E (.sl u L.length (cellsL L)) v1) :
    Calls Tryz.prog f_scarflaw15_ValueArgs #[v0, v1] E.w fun e w' => e = .returned (.bool true) ∧ ∃ E', E'.w = w' ∧ Ext E E' := by
  obtain ⟨n, hn⟩ := ValueArgs_run s u L hf hvf
  have h := (run_sound intrOK n _ _ ⟨[], 0⟩ _ _ hn E hS hL hI hG [v0, v1] ⟨v0, [v1], rfl, h0, v1, [], rfl, h1, rfl⟩).2
  refine h.mono fun e w' => ?_
  rintro ⟨v, E', rfl, rfl, _, _, hext, _, hv⟩
  exact ⟨by rw [show v = .bool true from hv], E', rfl, hext⟩
end Go.Proofs.YtmjnfdjhaopeiaaGreatDoor
