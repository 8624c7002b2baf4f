/-
  A part of the proof: D8.
-/
import Derived.Test.YtmjnfdjhaopeiaaDoorD7
import Derived.Test.YtmjnfdjhaopeiaaDoorPy4
import Derived.Lib.LaidCaseMet
import Derived.ProofKit
import Derived.LaidHandle
import Derived.LaidMore
import Derived.LaidOnce
import Derived.Stop.Joined
import Derived.Test.YtmjnfdjhaopeiaaDoorTie
namespace Go.Proofs.YtmjnfdjhaopeiaaDoor
open Go Go.Pvm Go.ChangeShapes Go.WideShapes Go.ChangeAt Go.RowKit
set_option maxRecDepth 100000

theorem own : ownKnob Tryd.prog.godebug = none := by kernel_rfl
theorem laidOut : laidOutB Tryd.prog = true := by kernel_rfl

theorem valTypes : ValTypes Tryd.prog 25 3 22 23 where
  hn := by kernel_rfl
  hs := by kernel_rfl
  hl := by kernel_rfl
  hv := ⟨{ name := "N", type := 3, offset := 0, embedded := false, tag := "", pkgPath := "", byteOffset := 0 }, { name := "S", type := 22, offset := 1, embedded := false, tag := "", pkgPath := "", byteOffset := 8 }, { name := "L", type := 23, offset := 2, embedded := false, tag := "", pkgPath := "", byteOffset := 32 }, Tryd.underlying25, rfl, rfl, rfl, rfl, rfl, rfl⟩
  cn := by kernel_rfl
  cs := by kernel_rfl
  cl := by kernel_rfl
  cv := by kernel_rfl

/-- The state that a call begins with. -/
def env0 (w : World) : Env := { w, G := fun k => k < w.heap.size, sg := fun _ => none, z := fun _ => 0, S := ⟨[], 0⟩, L := [], l := fun _ => 0 }
theorem no_mod (w : World) (k : Nat) : ¬ Mod (env0 w) k := by
  rintro (⟨b, bx, h, _⟩ | ⟨d, cs, h, _⟩) <;> cases h
theorem inv0 (w : World) : Inv (env0 w) :=
  ⟨fun k hk => ⟨hk, no_mod w k⟩, fun b bx h => (by cases h), fun b b' bx bx' k h => (by cases h), fun d cs h => (by cases h), fun d d' cs cs' h => (by cases h), fun b bx d cs h => (by cases h)⟩

theorem glob0 {w : World} (h : laidMet Tryd.prog Rows.valueSameRow.laid w) : Glob cfg (env0 w) := by
  intro g cs hg
  have hg' : Pvm.look globT g = some cs := hg
  unfold globT at hg'
  simp only [Pvm.look] at hg'
  split at hg'
  · rename_i e; subst e
    obtain rfl := Option.some.inj hg'
    exact table_of (n := "internal/strconv.uint64pow10") (d := Rows.laid_internal_strconv_uint64pow10) (t := 106) (e := 48) (k := .u64) (m := 20) h (by simp [Rows.valueSameRow]) (by kernel_rfl) (by kernel_rfl) (by kernel_rfl) (by kernel_rfl) (by kernel_rfl) (by kernel_rfl) (by kernel_rfl)
  · split at hg'
    · rename_i e; subst e
      obtain rfl := Option.some.inj hg'
      exact table_of (n := "unicode/utf8.first") (d := Rows.laid_unicode_utf8_first) (t := 118) (e := 5) (k := .u8) (m := 256) h (by simp [Rows.valueSameRow]) (by kernel_rfl) (by kernel_rfl) (by kernel_rfl) (by kernel_rfl) (by kernel_rfl) (by kernel_rfl) (by kernel_rfl)
    · split at hg'
      · rename_i e; subst e
        obtain rfl := Option.some.inj hg'
        exact table_of (n := "math/bits.deBruijn64tab") (d := Rows.laid_math_bits_deBruijn64tab) (t := 128) (e := 5) (k := .u8) (m := 64) h (by simp [Rows.valueSameRow]) (by kernel_rfl) (by kernel_rfl) (by kernel_rfl) (by kernel_rfl) (by kernel_rfl) (by kernel_rfl) (by kernel_rfl)
      · cases hg'

theorem arg_tree {H : Type} {enc : TypeId × Value → H} {w : World} {v : Value} {d : DataW H} {p : List MemPlace}
    (h : DataW.Trod enc Tryd.prog w 0 (fun _ => true) true 25 v d p) : ∃ a : Vl, W (env0 w) (.agg a.cells) v := by
  obtain ⟨fuel, h⟩ := h
  obtain ⟨a, ha⟩ := tree_of valTypes fuel _ _ h
  have hl := (VpL_iff.1 ha).1
  rw [cells_len] at hl
  cases v with
  | agg cs => exact ⟨a, cs.toList, by simp, WL_of_VpL (E := env0 w) _ _ ha⟩
  | _ => simp [Value.cells] at hl

def caseRen : Go.Shelf.Ren where
  f := fun x => match x with
    | 274 => 84
    | n => n
  t := fun x => match x with
    | 21 => 21
    | 162 => 112
    | 160 => 122
    | 3 => 3
    | 4 => 4
    | 46 => 79
    | 0 => 0
    | 208 => 132
    | 51 => 96
    | 206 => 130
    | n => n
  g := fun x => match x with
    | 13 => 1
    | n => n
theorem caseLays : Go.Proofs.Lays.n274 Tryd.prog caseRen where
  mixed := by kernel_rfl
  f274 := by kernel_rfl
  t0 := Tryd.underlying0
  a0 := Tryd.isAgg0
  z0 := Tryd.sizeOf0
  v0 := Tryd.zeroValue0
  t3 := Tryd.underlying3
  a3 := Tryd.isAgg3
  z3 := Tryd.sizeOf3
  v3 := Tryd.zeroValue3
  t4 := Tryd.underlying4
  a4 := Tryd.isAgg4
  z4 := Tryd.sizeOf4
  v4 := Tryd.zeroValue4
  t21 := Tryd.underlying21
  a21 := Tryd.isAgg21
  z21 := Tryd.sizeOf21
  v21 := Tryd.zeroValue21
  t46 := Tryd.underlying79
  a46 := Tryd.isAgg79
  z46 := Tryd.sizeOf79
  v46 := Tryd.zeroValue79
  t51 := Tryd.underlying96
  a51 := Tryd.isAgg96
  z51 := Tryd.sizeOf96
  v51 := Tryd.zeroValue96
  t160 := Tryd.underlying122
  a160 := Tryd.isAgg122
  z160 := Tryd.sizeOf122
  v160 := Tryd.zeroValue122
  t162 := Tryd.underlying112
  a162 := Tryd.isAgg112
  z162 := Tryd.sizeOf112
  v162 := Tryd.zeroValue112
  t208 := Tryd.underlying132
  a208 := Tryd.isAgg132
  z208 := Tryd.sizeOf132
  v208 := Tryd.zeroValue132

theorem caseExtra : Go.Proofs.CaseExtra Tryd.prog caseRen where
  n13 := by kernel_rfl
  y13 := by kernel_rfl
  c21 := by kernel_rfl
  c51 := by kernel_rfl
  c206 := by kernel_rfl
  c208 := by kernel_rfl

/-- The values that plain data is. -/
def litsOf (d : DataW Unit) : List Value := ((dcells d).getD []).map fun | .s v => v | _ => undef
/-- A start that meets the listed tables. -/
noncomputable def witWorld (os : Os) : World :=
  let N := (World.settled Tryd.prog os).heap.size
  let w0 := World.holding Tryd.prog os ⟨#[.cells Go.Lib.caseCells5 132], #[], []⟩
  let put (h : Array Obj) (g : Nat) (cs : Array Value) : Array Obj := h.modify g fun
    | .cells _ t frozen => .cells cs t frozen
    | o => o
  let h1 := put w0.heap 0 (litsOf Rows.laid_internal_strconv_uint64pow10).toArray
  let h2 := put h1 3 (litsOf Rows.laid_unicode_utf8_first).toArray
  let h3 := put h2 4 (litsOf Rows.laid_unicode_utf8_acceptRanges).toArray
  let h4 := put h3 5 (litsOf Rows.laid_math_bits_deBruijn32tab).toArray
  let h5 := put h4 6 (litsOf Rows.laid_math_bits_deBruijn64tab).toArray
  let h6 := put h5 1 #[.slice (some ⟨N, 0, none⟩) 336 336]
  { w0 with heap := h6 }

theorem wit_met (os : Os) (args : Array Value) : laidMet Tryd.prog Rows.valueSameRow.laid ((witWorld os).forCall (fun _ _ => 0) ⟨#[], args, []⟩).memory := by
  have h := Go.Proofs.laidMet_with_case (ρ := caseRen) caseLays Tryd.underlying130 caseExtra (w := ((witWorld os).forCall (fun _ _ => 0) ⟨#[], args, []⟩).memory)
    (l := [("math/bits.deBruijn32tab", Rows.laid_math_bits_deBruijn32tab), ("math/bits.deBruijn64tab", Rows.laid_math_bits_deBruijn64tab), ("internal/strconv.uint64pow10", Rows.laid_internal_strconv_uint64pow10), ("unicode/utf8.acceptRanges", Rows.laid_unicode_utf8_acceptRanges), ("unicode/utf8.first", Rows.laid_unicode_utf8_first)])
    10 (by kernel_rfl) (by kernel_rfl) (by kernel_rfl) ((World.settled Tryd.prog default).heap.size) 132 (of_decide_eq_true (by kernel_rfl)) (by kernel_rfl) (by kernel_rfl) (by kernel_rfl)
  rw [← show Pinned.caseRanges = Go.Lib.caseData by kernel_rfl] at h
  refine laidMet_perm ?_ h
  show List.Perm [_, _, _, _, _, _] [_, _, _, _, _, _]
  exact .cons _ (.cons _ (.cons _ (.cons _ (.swap _ _ _))))

theorem door_met (os : Os) (args : Array Value) : laidMetH Tryd.prog Rows.valueSameRow.laid ((witWorld os).forCall (fun _ _ => 0) ⟨#[], args, []⟩).memory := by
  unfold laidMetH
  rw [show (Rows.valueSameRow.laid.filter fun x => x.2.handleName?.isSome) = [] by kernel_rfl]
  exact wit_met os args

theorem valueSame_lifted (os : Os) (started : os.Started) (H : Type) (enc : TypeId × Value → H) :
    ReturnsInHanded {} Tryd.checked os 3 .any (fun w args => (Rows.valueSameSpec.pre enc Tryd.prog Tryd.f3 [] false w args ∧ laidMetH Tryd.prog Rows.valueSameRow.laid w) ∧ sizedMet enc Tryd.prog Tryd.f3 (OpenSpec.ofChange Rows.valueSameSpec) false w args)
      (Rows.valueSameSpec.post enc Tryd.prog Tryd.f3 false true false false) := by
  refine returnsInHanded_of_change_and (C := Tryd.checked) (X := fun w _ => laidMetH Tryd.prog Rows.valueSameRow.laid w) (fun _ _ _ hh h => h.of_heap hh) own started (by kernel_rfl) Tryd.func3
    (ChangeSpec.witness_shaped (enc := enc) (C := Tryd.checked) (os := os) (X := fun w _ => laidMetH Tryd.prog Rows.valueSameRow.laid w) false (witWorld os)
      #[.agg #[.int .i64 0, .slice none 0 0, .slice none 0 0], .agg #[.int .i64 0, .slice none 0 0, .slice none 0 0]] 8 rfl (World.shaped_of_RefB (by kernel_rfl) (by kernel_rfl)) (by kernel_rfl) (by kernel_rfl) (by kernel_rfl) (door_met os _)) ?_
  intro W base args ds gs before hval0 hW _ _ hL _
  have hval : ∀ (j : Nat) t v, Tryd.f3.params[j]? = some t → args[j]? = some v → Value.okWide Tryd.prog W .any base t v := hval0
  have hW' := hW
  obtain ⟨p, q, hA0, hV, rfl, hfz, hnd⟩ := hW
  have hA : DataW.TrodAll enc Tryd.prog W 0 (fun _ => true) true Tryd.f3.params.toList args.toList ds p := hA0
  rw [Tryd.params3] at hA hval
  obtain ⟨v0, v1, d0, d1, p0, p1, rfl, rfl, rfl, h0, h1⟩ := trodAll_two hA
  obtain ⟨rfl, rfl⟩ := trodVars_none hV
  simp only [List.append_nil] at hW'
  obtain ⟨a, ha⟩ := arg_tree h0
  obtain ⟨b, hb⟩ := arg_tree h1
  have hlaid : laidMet Tryd.prog Rows.valueSameRow.laid W := by
    have h := hL
    unfold laidMetH at h
    rw [show (Rows.valueSameRow.laid.filter fun x => x.2.handleName?.isSome) = [] by kernel_rfl] at h
    exact h
  refine (law_calls a b (E := env0 W) rfl rfl (inv0 W) (glob0 hlaid) ha hb).mono fun e W' ⟨he, E', hw, hext⟩ => ?_
  subst he
  have hB : Below W.heap.size W W' := hw ▸ hext.below (no_mod W)
  have e1 : Rows.valueSameSpec.fn H ([d0, d1] ++ []) = { results := [.lit (.bool true)], args := [d0, d1] } := by simp [Rows.valueSameSpec]
  have t0 := Below.trod laidOut (by kernel_rfl) (of_decide_eq_true (by kernel_rfl)) h0 hB (fun x hx => hW'.lt x (by simp [hx]))
  have t1 := Below.trod laidOut (by kernel_rfl) (of_decide_eq_true (by kernel_rfl)) h1 hB (fun x hx => hW'.lt x (by simp [hx]))
  refine ⟨_, rfl, _, _, _, [], p0 ++ p1, [], hW', ?_, ?_, ?_, hB.frame _, fun h => by cases h⟩
  · rw [e1]; exact trodAll_mk1 (shut_bool Tryd.underlying4 true)
  · rw [e1]; exact trodAll_mk2 t0 t1
  · rw [e1]; rfl
end Go.Proofs.YtmjnfdjhaopeiaaDoor
