/-
  A part of the proof: Py3.
-/
import Derived.Test.YtmjnfdjhaopeiaaGreatDoorPy2
import Derived.OpenShut
import Derived.LaidLaws
/-
  What a listed table reads as is what its cells hold.
-/
namespace Go.Pvm
open Go

variable {H : Type} {enc : TypeId × Value → H} {P : Program} {w : World} {base : Nat} {spare : Nat → Bool} {held : Bool}

theorem dcellsAll_ints {k : IntKind} : ∀ (zs : List Int), dcellsAll (H := H) (zs.map fun z => .lit (.int k z)) = some (zs.map fun z => .s (.int k z))
  | [] => rfl
  | z :: zs => by simp [dcellsAll, dcells, dcellsAll_ints zs, Lit.value]

/-- An array of numbers. -/
theorem nums_of {t e : TypeId} {k : IntKind} {n : Nat} (ht : P.underlying t = some (.array n e)) (he : P.underlying e = some (.int k)) (hc : P.cellsOf e = 1) (hcn : P.cellsOf t = n) {fuel : Nat} {cs : List Value} {x : DataW H × List MemPlace}
    (h : DataW.trod enc P w base spare held fuel t cs = some x) : ∃ zs : List Int, x.1 = .agg (zs.map fun z => .lit (.int k z)) ∧ cs = zs.map (Value.int k) := by
  obtain ⟨xs, m, rfl, rfl, hl, hx, hel⟩ := DataW.trod_array ht h
  have hi : ∀ i, i < n → ∃ z : Int, cs[i]? = some (.int k z) ∧ (xs.map (·.1))[i]? = some (.lit (.int k z)) := by
    intro i hi
    have h1 := hel i hi
    rw [hc, Nat.mul_one, List.getElem?_eq_getElem (by omega)] at h1
    obtain ⟨z, e1, e2, _⟩ := DataW.trod_int he h1
    refine ⟨z, ?_, ?_⟩
    · have := congrArg (·[0]?) e1
      simpa [List.getElem?_take, List.getElem?_drop] using this
    · rw [List.getElem?_map, List.getElem?_eq_getElem (by omega), Option.map_some, e2]
  obtain ⟨zs, hz, hq⟩ := list_of n hi
  refine ⟨zs, ?_, ?_⟩
  · simp only
    congr 1
    apply List.ext_getElem?
    intro i
    rw [List.getElem?_map (l := zs)]
    rcases Nat.lt_or_ge i n with h | h
    · have := (hq i zs[i] (by simp [hz, h])).2
      rw [this, List.getElem?_eq_getElem (by omega)]; rfl
    · rw [List.getElem?_eq_none (by simp; omega), List.getElem?_eq_none (by omega)]; rfl
  · apply List.ext_getElem?
    intro i
    rw [List.getElem?_map]
    rcases Nat.lt_or_ge i n with h | h
    · have := (hq i zs[i] (by simp [hz, h])).1
      rw [this, List.getElem?_eq_getElem (by omega)]; rfl
    · rw [List.getElem?_eq_none (by omega), List.getElem?_eq_none (by omega)]; rfl

theorem laid_mem {n : String} {d : DataW Unit} : ∀ {laid : List (String × DataW Unit)} {ps : List MemPlace}, DataW.LaidVars P w laid ps → (n, d) ∈ laid →
    ∃ g t cs fuel p, P.globalNamed n = some g ∧ (P.globals[g]?).map (·.type) = some t ∧ w.var? P n = some cs ∧ DataW.trod (fun _ => ()) P w 0 (fun _ => true) false fuel t cs.toList = some (d, p)
  | [], ps, _, h => by cases h
  | (n', d') :: r, ps, ⟨g, t, cs, fuel, p, q, h1, h2, h3, h4, h5, _⟩, h => by
    rcases List.mem_cons.1 h with e | h
    · obtain ⟨rfl, rfl⟩ := Prod.mk.inj e
      exact ⟨g, t, cs, fuel, p, h1, h2, h3, h4⟩
    · exact laid_mem h5 h

/-- A listed table of numbers, as a pointer leads to it. -/
theorem table_of {n : String} {d : DataW Unit} {laid : List (String × DataW Unit)} (hm : laidMet P laid w) (hin : (n, d) ∈ laid) {g t e : Nat} {k : IntKind} {m : Nat} (hg : P.globalNamed n = some g) (htg : (P.globals[g]?).map (·.type) = some t)
    (ht : P.underlying t = some (.array m e)) (he : P.underlying e = some (.int k)) (hc : P.cellsOf e = 1) (hcn : P.cellsOf t = m) {ps : List PV} (hd : dcells d = some ps) :
    Vp w (fun k => k < w.heap.size) (.cel ps 0) (.pointer (some ⟨g, 0, none⟩)) := by
  obtain ⟨pl, hl, _⟩ := hm
  obtain ⟨g', t', cs, fuel, p, h1, h2, h3, h4⟩ := laid_mem hl hin
  obtain rfl := Option.some.inj (h1.symm.trans hg)
  obtain rfl := Option.some.inj (h2.symm.trans htg)
  obtain ⟨zs, e1, e2⟩ := nums_of ht he hc hcn h4
  simp only at e1
  subst e1
  simp only [dcells, dcellsAll_ints, Option.some.injEq] at hd
  subst hd
  unfold World.var? at h3
  rw [h1] at h3
  simp only [Option.bind_some] at h3
  split at h3
  · rename_i cs' T fz hh
    obtain rfl := Option.some.inj h3
    refine ⟨g', 0, rfl, (Array.getElem?_eq_some_iff.1 hh).1, VpC_iff.2 fun i p hp => ?_⟩
    rw [List.getElem?_map] at hp
    obtain ⟨z, hz, rfl⟩ := Option.map_eq_some_iff.1 hp
    refine ⟨.int k z, ?_, rfl⟩
    simp only [World.cell?, hh, Option.isSome_none, Bool.false_eq_true, if_false, Nat.zero_add]
    rw [← Array.getElem?_toList, e2, List.getElem?_map, hz]; rfl
  · cases h3
end Go.Pvm
