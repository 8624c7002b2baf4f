/-
  A part of the proof: Z22.
-/
import Derived.Test.YtmjnfdjhaopeiaaGreatDoorZ21
namespace Go.Proofs.YtmjnfdjhaopeiaaGreatDoor
open Go Go.Pvm Go.ChangeShapes Go.WideShapes Go.ChangeAt Go.RowKit
set_option maxRecDepth 100000

theorem own : ownKnob Tryz.prog.godebug = none := by kernel_rfl
theorem laidOut : laidOutB Tryz.prog = true := by kernel_rfl

/-- The state that a call begins with. -/
def env0 (w : World) : Env := { w, G := fun k => k < w.heap.size, sg := fun _ => none, z := fun _ => 0, S := ⟨[], 0⟩, L := [], l := fun _ => 0 }
theorem no_mod (w : World) (k : Nat) : ¬ Mod (env0 w) k := by
  rintro (⟨b, bx, h, _⟩ | ⟨d, cs, h, _⟩) <;> cases h
theorem inv0 (w : World) : Inv (env0 w) :=
  ⟨fun k hk => ⟨hk, no_mod w k⟩, fun b bx h => (by cases h), fun b b' bx bx' k h => (by cases h), fun d cs h => (by cases h), fun d d' cs cs' h => (by cases h), fun b bx d cs h => (by cases h)⟩

theorem glob0 {w : World} (h : laidMet Tryz.prog Rows.valueArgsRow.laid w) : Glob cfg (env0 w) := by
  intro g cs hg
  have hg' : Pvm.look globT g = some cs := hg
  unfold globT at hg'
  simp only [Pvm.look] at hg'
  split at hg'
  · rename_i e; subst e
    obtain rfl := Option.some.inj hg'
    exact table_of (n := "internal/strconv.uint64pow10") (d := Rows.laid_internal_strconv_uint64pow10) (t := 136) (e := 82) (k := .u64) (m := 20) h (by simp [Rows.valueArgsRow]) (by kernel_rfl) (by kernel_rfl) (by kernel_rfl) (by kernel_rfl) (by kernel_rfl) (by kernel_rfl) (by kernel_rfl)
  · split at hg'
    · rename_i e; subst e
      obtain rfl := Option.some.inj hg'
      exact table_of (n := "unicode/utf8.first") (d := Rows.laid_unicode_utf8_first) (t := 145) (e := 5) (k := .u8) (m := 256) h (by simp [Rows.valueArgsRow]) (by kernel_rfl) (by kernel_rfl) (by kernel_rfl) (by kernel_rfl) (by kernel_rfl) (by kernel_rfl) (by kernel_rfl)
    · split at hg'
      · rename_i e; subst e
        obtain rfl := Option.some.inj hg'
        exact table_of (n := "math/bits.deBruijn64tab") (d := Rows.laid_math_bits_deBruijn64tab) (t := 153) (e := 5) (k := .u8) (m := 64) h (by simp [Rows.valueArgsRow]) (by kernel_rfl) (by kernel_rfl) (by kernel_rfl) (by kernel_rfl) (by kernel_rfl) (by kernel_rfl) (by kernel_rfl)
      · cases hg'

/-- An argument whose cells are known. -/
theorem agg_of {w : World} {G : Nat → Prop} {E : Env} (he : E.w = w) (hg : E.G = G) {v : Value} {cs : List PV} (h : VpL w G cs v.cells.toList) (hl : 2 ≤ cs.length) : W E (.agg cs) v := by
  subst he; subst hg
  have hn := (VpL_iff.1 h).1
  cases v with
  | agg xs => exact ⟨xs.toList, by simp, WL_of_VpL (E := E) _ _ h⟩
  | _ => simp [Value.cells] at hn; omega
theorem one_of {v u : Value} (h : v.cells.toList = [u]) (hs : ∃ a n c, v = .slice a n c) : v = u := by
  obtain ⟨a, n, c, rfl⟩ := hs
  simpa [Value.cells] using h

def caseRen : Go.Shelf.Ren where
  f := fun x => match x with
    | 274 => 122
    | n => n
  t := fun x => match x with
    | 162 => 142
    | 160 => 149
    | 46 => 89
    | 208 => 157
    | 51 => 112
    | 206 => 155
    | n => n
  g := fun x => match x with
    | 13 => 1
    | n => n
theorem caseLays : Go.Proofs.Lays.n274 Tryz.prog caseRen where
  mixed := by kernel_rfl
  f274 := by kernel_rfl
  t0 := Tryz.underlying0
  a0 := Tryz.isAgg0
  z0 := Tryz.sizeOf0
  v0 := Tryz.zeroValue0
  t3 := Tryz.underlying3
  a3 := Tryz.isAgg3
  z3 := Tryz.sizeOf3
  v3 := Tryz.zeroValue3
  t4 := Tryz.underlying4
  a4 := Tryz.isAgg4
  z4 := Tryz.sizeOf4
  v4 := Tryz.zeroValue4
  t21 := Tryz.underlying21
  a21 := Tryz.isAgg21
  z21 := Tryz.sizeOf21
  v21 := Tryz.zeroValue21
  t46 := Tryz.underlying89
  a46 := Tryz.isAgg89
  z46 := Tryz.sizeOf89
  v46 := Tryz.zeroValue89
  t51 := Tryz.underlying112
  a51 := Tryz.isAgg112
  z51 := Tryz.sizeOf112
  v51 := Tryz.zeroValue112
  t160 := Tryz.underlying149
  a160 := Tryz.isAgg149
  z160 := Tryz.sizeOf149
  v160 := Tryz.zeroValue149
  t162 := Tryz.underlying142
  a162 := Tryz.isAgg142
  z162 := Tryz.sizeOf142
  v162 := Tryz.zeroValue142
  t208 := Tryz.underlying157
  a208 := Tryz.isAgg157
  z208 := Tryz.sizeOf157
  v208 := Tryz.zeroValue157

theorem caseExtra : Go.Proofs.CaseExtra Tryz.prog caseRen where
  n13 := by kernel_rfl
  y13 := by kernel_rfl
  c21 := by kernel_rfl
  c51 := by kernel_rfl
  c206 := by kernel_rfl
  c208 := by kernel_rfl

/-- The values that plain data is. -/
def litsOf (d : DataW Unit) : List Value := ((dcells d).getD []).map fun | .s v => v | _ => undef
/-- A start that meets the listed tables. -/
noncomputable def witWorld (os : Os) : World :=
  let N := (World.settled Tryz.prog os).heap.size
  let w0 := World.holding Tryz.prog os ⟨#[.cells Go.Lib.caseCells5 157], #[], []⟩
  let put (h : Array Obj) (g : Nat) (cs : Array Value) : Array Obj := h.modify g fun
    | .cells _ t frozen => .cells cs t frozen
    | o => o
  let h1 := put w0.heap 0 (litsOf Rows.laid_internal_strconv_uint64pow10).toArray
  let h2 := put h1 3 (litsOf Rows.laid_unicode_utf8_first).toArray
  let h3 := put h2 4 (litsOf Rows.laid_unicode_utf8_acceptRanges).toArray
  let h4 := put h3 5 (litsOf Rows.laid_math_bits_deBruijn32tab).toArray
  let h5 := put h4 6 (litsOf Rows.laid_math_bits_deBruijn64tab).toArray
  let h6 := put h5 1 #[.slice (some ⟨N, 0, none⟩) 336 336]
  { w0 with heap := h6 }

theorem wit_met (os : Os) (args : Array Value) : laidMet Tryz.prog Rows.valueArgsRow.laid ((witWorld os).forCall (fun _ _ => 0) ⟨#[], args, []⟩).memory := by
  have h := Go.Proofs.laidMet_with_case (ρ := caseRen) caseLays Tryz.underlying155 caseExtra (w := ((witWorld os).forCall (fun _ _ => 0) ⟨#[], args, []⟩).memory)
    (l := [("math/bits.deBruijn32tab", Rows.laid_math_bits_deBruijn32tab), ("math/bits.deBruijn64tab", Rows.laid_math_bits_deBruijn64tab), ("internal/strconv.uint64pow10", Rows.laid_internal_strconv_uint64pow10), ("unicode/utf8.acceptRanges", Rows.laid_unicode_utf8_acceptRanges), ("unicode/utf8.first", Rows.laid_unicode_utf8_first)])
    10 (by kernel_rfl) (by kernel_rfl) (by kernel_rfl) ((World.settled Tryz.prog default).heap.size) 157 (of_decide_eq_true (by kernel_rfl)) (by kernel_rfl) (by kernel_rfl) (by kernel_rfl)
  rw [← show Pinned.caseRanges = Go.Lib.caseData by kernel_rfl] at h
  refine laidMet_perm ?_ h
  show List.Perm [_, _, _, _, _, _] [_, _, _, _, _, _]
  exact .cons _ (.cons _ (.cons _ (.cons _ (.swap _ _ _))))

theorem door_met (os : Os) (args : Array Value) : laidMetH Tryz.prog Rows.valueArgsRow.laid ((witWorld os).forCall (fun _ _ => 0) ⟨#[], args, []⟩).memory := by
  unfold laidMetH
  rw [show (Rows.valueArgsRow.laid.filter fun x => x.2.handleName?.isSome) = [] by kernel_rfl]
  exact wit_met os args

/-- How much room the arguments take. -/
theorem lig_two {H : Type} {P : Program} {t0 t1 : TypeId} {d0 d1 : DataW H} {ts : List TypeId} {gs : List (DataW H)} (h : (DataW.weightsEach P ([t0, t1] ++ ts) ([d0, d1] ++ gs)).all (· ≤ reachBytes) = true) : Lig P t0 d0 ∧ Lig P t1 d1 := by
  have h' := List.all_eq_true.1 h
  simp only [List.cons_append, List.nil_append, DataW.weightsEach] at h'
  have hr : reachBytes ≤ 140737488355328 := by decide
  exact ⟨fun n hn => Nat.le_trans (of_decide_eq_true (h' n (List.mem_append_left _ hn))) hr, fun n hn => Nat.le_trans (of_decide_eq_true (h' n (List.mem_append_right _ (List.mem_append_left _ hn)))) hr⟩
theorem lig_three {H : Type} {P : Program} {t0 t1 t2 : TypeId} {d0 d1 d2 : DataW H} {ts : List TypeId} {gs : List (DataW H)} (h : (DataW.weightsEach P ([t0, t1, t2] ++ ts) ([d0, d1, d2] ++ gs)).all (· ≤ reachBytes) = true) : Lig P t0 d0 ∧ Lig P t1 d1 ∧ Lig P t2 d2 := by
  have h' := List.all_eq_true.1 h
  simp only [List.cons_append, List.nil_append, DataW.weightsEach] at h'
  have hr : reachBytes ≤ 140737488355328 := by decide
  exact ⟨fun n hn => Nat.le_trans (of_decide_eq_true (h' n (List.mem_append_left _ hn))) hr, fun n hn => Nat.le_trans (of_decide_eq_true (h' n (List.mem_append_right _ (List.mem_append_left _ hn)))) hr,
    fun n hn => Nat.le_trans (of_decide_eq_true (h' n (List.mem_append_right _ (List.mem_append_right _ (List.mem_append_left _ hn))))) hr⟩
end Go.Proofs.YtmjnfdjhaopeiaaGreatDoor
