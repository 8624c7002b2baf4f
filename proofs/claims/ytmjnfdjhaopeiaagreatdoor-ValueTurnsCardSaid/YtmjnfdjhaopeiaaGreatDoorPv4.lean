/-
  A part of the proof: Pv4.
-/
import Derived.Test.YtmjnfdjhaopeiaaGreatDoorPv3
import Derived.Laws.CopyRow
import Derived.Laws.Slices
/-
  PVM, part 4: reading.
-/
namespace Go.Pvm
open Go

theorem W_pv {E : Env} {r : RV} {v : Value} (h : V E r v) : W E r.pv v := by
  cases r with
  | v p => exact h
  | loc d off => trivial

theorem W_ofCell (E : Env) (v : Value) : W E (ofCell v) v := by
  unfold ofCell
  split
  · exact ⟨none, 0, rfl, Nat.le_refl _, fun _ => rfl, .inl rfl⟩
  · rfl

theorem WL_ofCells (E : Env) (vs : List Value) : WL E (vs.map ofCell) vs := by
  refine WL_iff.2 ⟨by simp, fun i p v hp hv => ?_⟩
  simp only [List.getElem?_map, hv, Option.map_some, Option.some.injEq] at hp
  subst hp
  exact W_ofCell E v

theorem W_ofVal (E : Env) (v : Value) : W E (ofVal v) v := by
  unfold ofVal
  split
  · rename_i cs
    exact ⟨cs.toList, by simp, WL_ofCells E _⟩
  · exact W_ofCell E v

section
variable {P : Program}
theorem run_size {t : TypeId} {n : Nat} (h : size? P t = some n) (w : World) : (sizeOf t).run P w = .ok n w := by
  unfold size? at h
  obtain ⟨i, hi, rfl⟩ := Option.map_eq_some_iff.1 h
  simp [sizeOf, typeInfo, hi]

theorem run_agg {t : TypeId} {b : Bool} (h : agg? P t = some b) (w : World) : (isAgg t).run P w = .ok b w := by
  unfold agg? at h
  cases hu : P.underlying t with
  | none => simp [hu] at h
  | some d =>
    rw [hu] at h
    simp only [isAgg, Sem.run_bind, run_underlying hu, Result.andThen_ok]
    cases d <;> simp at h <;> subst h <;> rfl
end

theorem addr_eq (k o n : Nat) : (⟨k, o, none⟩ : Addr).add n = ⟨k, o + n, none⟩ := by
  unfold Addr.add; split <;> simp_all

/-- Cells of a row, as an address leads to them. -/
structure At (E : Env) (cs : List PV) (off : Nat) (av : Value) : Prop where
  ex : ∃ k o, av = .pointer (some ⟨k, o + off, none⟩) ∧ ∀ (i : Nat) (p : PV), cs[i]? = some p → ∃ u, E.w.cell? ⟨k, o + i, none⟩ = some u ∧ W E p u

theorem Holds.cell {E : Env} {k : Nat} {cs : List PV} {n : Nat} (h : Holds E k cs n) {i : Nat} {p : PV} (hp : cs[i]? = some p) :
    ∃ u, E.w.cell? ⟨k, i, none⟩ = some u ∧ W E p u := by
  obtain ⟨arr, T, h1, h2, h3, h4⟩ := h.ex
  obtain ⟨g1, g2⟩ := WL_iff.1 h4
  have hi : i < cs.length := by
    rcases Nat.lt_or_ge i cs.length with h | h
    · exact h
    · simp [List.getElem?_eq_none h] at hp
  have ha : i < arr.size := by omega
  refine ⟨arr[i], by simp [World.cell?, h1, ha], g2 i p arr[i] hp ?_⟩
  rw [List.getElem?_take_of_lt hi]
  simp [ha]

theorem addr_sound {E : Env} {T : LS} (hS : E.S = T.S) (hL : E.L = T.L) (hi : Inv E) {r : RV} {av : Value} {cs : List PV} {off : Nat}
    (h : addrCells T r = some (cs, off)) (hv : V E r av) : At E cs off av := by
  cases r with
  | loc d o =>
    simp only [addrCells] at h
    obtain ⟨cs', h1, h2⟩ := Option.map_eq_some_iff.1 h
    obtain ⟨rfl, rfl⟩ := Prod.mk.inj h2
    obtain ⟨cs2, g1, g2⟩ := hv
    rw [hL, h1] at g1
    obtain rfl := Option.some.inj g1
    refine ⟨E.l d, 0, by simpa using g2, fun i p hp => ?_⟩
    rw [Nat.zero_add]
    exact (hi.loc d _ (by rw [hL]; exact h1)).cell hp
  | v p =>
    cases p <;> simp only [addrCells] at h <;> try (cases h; done)
    case cel cs' o =>
      obtain ⟨rfl, rfl⟩ := Prod.mk.inj (Option.some.inj h)
      obtain ⟨k, o', e, hg, hc⟩ := hv
      refine ⟨k, o', e, fun i p hp => ?_⟩
      obtain ⟨u, h1, h2⟩ := VpC_iff.1 hc i p hp
      exact ⟨u, h1, W_of_Vp p u h2⟩
    case ptr b ver o =>
      cases hb : T.S.get b with
      | none => simp [hb] at h
      | some bx =>
        simp only [hb] at h
        by_cases hver : bx.ver = ver
        · rw [if_pos hver] at h
          obtain ⟨rfl, rfl⟩ := Prod.mk.inj (Option.some.inj h)
          obtain ⟨_, hv2⟩ := hv
          obtain ⟨_, hv3⟩ := hv2 bx (by rw [hS]; exact hb)
          obtain ⟨k, hk, e⟩ := hv3 hver
          obtain ⟨_, _, g3, _⟩ := hi.box b bx (by rw [hS]; exact hb)
          refine ⟨k, 0, by simpa using e, fun i p hp => ?_⟩
          rw [Nat.zero_add]
          exact (g3 k hk).cell hp
        · rw [if_neg hver] at h; cases h

/-- A run of cells is read. -/
theorem At.loads {E : Env} {cs : List PV} {off : Nat} {av : Value} (h : At E cs off av) {P : Program} {n : Nat} (hn : off + n ≤ cs.length) :
    ∃ a vs, av = .pointer (some a) ∧ (loadCells a n).run P E.w = .ok vs E.w ∧ WL E ((cs.drop off).take n) vs.toList := by
  obtain ⟨k, o, e, hc⟩ := h.ex
  have hex : ∀ j, j < n → ∃ u, E.w.cell? ⟨k, o + (off + j), none⟩ = some u ∧ ∀ p, cs[off + j]? = some p → W E p u := by
    intro j hj
    have hlt : off + j < cs.length := by omega
    obtain ⟨u, h1, h2⟩ := hc (off + j) cs[off + j] (by simp [hlt])
    exact ⟨u, h1, fun p hp => by simp [hlt] at hp; subst hp; exact h2⟩
  let g : Nat → Value := fun j => if hj : j < n then Classical.choose (hex j hj) else undef
  have hg : ∀ j (hj : j < n), E.w.cell? ⟨k, o + (off + j), none⟩ = some (g j) ∧ ∀ p, cs[off + j]? = some p → W E p (g j) := by
    intro j hj
    simp only [g, dif_pos hj]
    exact Classical.choose_spec (hex j hj)
  refine ⟨⟨k, o + off, none⟩, ((List.range n).map g).toArray, e, run_loadCells E.w _ n g (fun j hj => ?_), ?_⟩
  · rw [addr_eq, Nat.add_assoc]; exact (hg j hj).1
  · refine WL_iff.2 ⟨by simp; omega, fun i p v hp hv => ?_⟩
    have hin : i < n := by
      rcases Nat.lt_or_ge i n with h | h
      · exact h
      · simp [h] at hv
    rw [List.getElem?_take_of_lt hin, List.getElem?_drop] at hp
    simp [hin] at hv
    subst hv
    exact (hg i hin).2 p hp

theorem At.load1 {E : Env} {cs : List PV} {off : Nat} {av : Value} (h : At E cs off av) {p : PV} (hp : cs[off]? = some p) :
    ∃ a v, av = .pointer (some a) ∧ E.w.cell? a = some v ∧ W E p v := by
  obtain ⟨k, o, e, hc⟩ := h.ex
  obtain ⟨u, h1, h2⟩ := hc off p hp
  exact ⟨_, u, e, h1, h2⟩

theorem load_sound {E : Env} {T : LS} (hS : E.S = T.S) (hL : E.L = T.L) (hi : Inv E) {P : Program} {t : TypeId} {r : RV} {x : PV} {av : Value}
    (h : loadO P T t r = some x) (hv : V E r av) : ∃ v, (Instr.loadAt t av).run P E.w = .ok v E.w ∧ W E x v := by
  unfold loadO at h
  split at h
  · rename_i cs off n ha hg hn
    split at h
    · rename_i hle
      obtain rfl := Option.some.inj h
      obtain ⟨a, vs, e, h1, h2⟩ := (addr_sound hS hL hi ha hv).loads (P := P) hle
      subst e
      refine ⟨.agg vs, ?_, vs.toList, by simp, h2⟩
      simp [Instr.loadAt, Instr.sureAddr, loadVar, run_agg hg, run_size hn, h1]
    · cases h
  · rename_i cs off _ ha hg
    obtain ⟨a, v, e, h1, h2⟩ := (addr_sound hS hL hi ha hv).load1 h
    subst e
    refine ⟨v, ?_, h2⟩
    simp [Instr.loadAt, Instr.sureAddr, loadVar, run_agg hg, h1]
  · cases h

/-! ### writing -/
theorem oneC_sound {E : Env} {p : PV} {v : Value} (h : oneC p = true) (hv : W E p v) : v.oneCell' = true := by
  cases p with
  | any => simp [oneC] at h
  | s x => obtain rfl : v = x := hv; exact h
  | agg cs => simp [oneC] at h
  | tup cs => simp [oneC] at h
  | sl u n cs => obtain ⟨A, c, rfl, _⟩ := hv; rfl
  | cel cs off => obtain ⟨k, o, rfl, _⟩ := hv; rfl
  | ptr b ver off => exact hv.1.2
  | bsl b ver off n => obtain ⟨⟨_, A, c, rfl⟩, _⟩ := hv; rfl
  | fn f a b => obtain ⟨x, y, rfl, _⟩ := hv; rfl
  | iface t p => obtain ⟨u, rfl, _⟩ := hv; rfl

theorem cells_one {v : Value} (h : v.oneCell' = true) : v.cells = #[v] := by cases v <;> first | rfl | simp [Value.oneCell'] at h

/-- A value's cells. -/
theorem cells_sound {E : Env} {p : PV} {v : Value} {ps : List PV} (h : cellsO p = some ps) (hv : W E p v) :
    WL E ps v.cells.toList ∧ ps.length = v.cells.size ∧ ∀ u ∈ v.cells.toList, u.oneCell' = true := by
  have one : oneC p = true → ps = [p] → WL E ps v.cells.toList ∧ ps.length = v.cells.size ∧ ∀ u ∈ v.cells.toList, u.oneCell' = true := by
    rintro h1 rfl
    have h2 := oneC_sound h1 hv
    rw [cells_one h2]
    exact ⟨⟨v, [], rfl, hv, rfl⟩, rfl, by simpa using h2⟩
  cases p with
  | agg cs =>
    simp only [cellsO] at h
    split at h
    · rename_i hall
      obtain rfl := Option.some.inj h
      obtain ⟨vs, rfl, hw⟩ := hv
      obtain ⟨h1, h2⟩ := WL_iff.1 hw
      refine ⟨by simpa [Value.cells] using hw, by simpa [Value.cells] using h1, ?_⟩
      intro u hu
      simp only [Value.cells] at hu
      obtain ⟨i, hi, rfl⟩ := List.mem_iff_getElem.1 hu
      have hi' : i < cs.length := by simpa [h1] using hi
      exact oneC_sound (List.all_eq_true.1 hall cs[i] (List.getElem_mem hi')) (h2 i cs[i] vs[i] (by simp) (by simp))
    · cases h
  | _ =>
    simp only [cellsO] at h
    split at h
    · rename_i h1; exact one h1 (Option.some.inj h).symm
    · cases h

theorem splice_length {cs ps : List PV} {off : Nat} (h : off + ps.length ≤ cs.length) : (splice cs off ps).length = cs.length := by
  simp [splice]; omega

theorem WL_append {E : Env} {a b : List PV} {x y : List Value} (h : WL E a x) (k : WL E b y) : WL E (a ++ b) (x ++ y) := by
  obtain ⟨h1, h2⟩ := WL_iff.1 h
  obtain ⟨k1, k2⟩ := WL_iff.1 k
  refine WL_iff.2 ⟨by simp [h1, k1], fun i p v hp hv => ?_⟩
  rcases Nat.lt_or_ge i a.length with hi | hi
  · rw [List.getElem?_append_left hi] at hp
    rw [List.getElem?_append_left (by omega)] at hv
    exact h2 i p v hp hv
  · rw [List.getElem?_append_right hi] at hp
    rw [List.getElem?_append_right (by omega)] at hv
    exact k2 (i - a.length) p v hp (by rw [h1]; exact hv)

theorem WL_take {E : Env} {a : List PV} {x : List Value} (h : WL E a x) (n : Nat) : WL E (a.take n) (x.take n) := by
  obtain ⟨h1, h2⟩ := WL_iff.1 h
  refine WL_iff.2 ⟨by simp [h1], fun i p v hp hv => ?_⟩
  rcases Nat.lt_or_ge i n with hi | hi
  · rw [List.getElem?_take_of_lt hi] at hp hv
    exact h2 i p v hp hv
  · simp [List.getElem?_take, Nat.not_lt.2 hi] at hp

theorem WL_drop {E : Env} {a : List PV} {x : List Value} (h : WL E a x) (n : Nat) : WL E (a.drop n) (x.drop n) := by
  obtain ⟨h1, h2⟩ := WL_iff.1 h
  refine WL_iff.2 ⟨by simp [h1], fun i p v hp hv => ?_⟩
  rw [List.getElem?_drop] at hp hv
  exact h2 (n + i) p v hp hv

theorem setRow_wput (w : World) (k : Nat) (cur cur' : Array Value) (T : TypeId) (h : w.heap[k]? = some (.cells cur T (0, 0))) :
    w.setRow k cur' = wput w k (.cells cur' T (0, 0)) := by
  unfold World.setRow wput
  congr 1
  apply Array.ext'
  apply List.ext_getElem?
  intro i
  simp only [Array.getElem?_toList, Array.getElem?_modify, Array.getElem?_setIfInBounds]
  by_cases e : k = i
  · subst e
    have hlt : k < w.heap.size := by
      rcases Nat.lt_or_ge k w.heap.size with h' | h'
      · exact h'
      · simp [Array.getElem?_eq_none h'] at h
    have hv : w.heap[k] = .cells cur T (0, 0) := by simpa [hlt] using h
    simp [hlt, hv]
  · simp [e]

/-- The content of a row that is written. -/
def laid (arr : Array Value) (off : Nat) (vs : List Value) : Array Value := (arr.toList.take off ++ vs ++ arr.toList.drop (off + vs.length)).toArray

theorem laid_size {arr : Array Value} {off : Nat} {vs : List Value} (h : off + vs.length ≤ arr.size) : (laid arr off vs).size = arr.size := by
  simp [laid]; omega

theorem run_stores {P : Program} {w : World} {k off : Nat} {arr : Array Value} {T : TypeId} {vs : List Value} (h : w.heap[k]? = some (.cells arr T (0, 0)))
    (hl : off + vs.length ≤ arr.size) (h1 : ∀ v ∈ vs, v.oneCell' = true) :
    (storeCells ⟨k, off, none⟩ vs).run P w = .ok () (wput w k (.cells (laid arr off vs) T (0, 0))) := by
  have := run_storeCells_at (P := P) k off T vs 0 arr w h (by simpa using hl) h1
  rw [this, setRow_wput w k arr _ T h]
  rfl

theorem take_seg {α : Type} (l vs : List α) (off n : Nat) (h : off + vs.length ≤ n) (hn : n ≤ l.length) :
    (l.take off ++ vs ++ l.drop (off + vs.length)).take n = (l.take n).take off ++ vs ++ (l.take n).drop (off + vs.length) := by
  have hA : (l.take off ++ vs).length = off + vs.length := by simp; omega
  rw [List.take_append, hA, List.take_of_length_le (by omega), List.take_take, List.drop_take, Nat.min_eq_left (by omega)]

/-- What a row held, where it has been written. -/
theorem WL_laid {E : Env} {cs ps : List PV} {arr : Array Value} {vs : List Value} {off : Nat} (h : WL E cs (arr.toList.take cs.length)) (hp : WL E ps vs)
    (hl : off + ps.length ≤ cs.length) : WL E (splice cs off ps) ((laid arr off vs).toList.take (splice cs off ps).length) := by
  have e1 : ps.length = vs.length := (WL_iff.1 hp).1
  have e2 : cs.length = (arr.toList.take cs.length).length := (WL_iff.1 h).1
  have e3 : cs.length ≤ arr.toList.length := by
    simp only [List.length_take] at e2; omega
  have hr : (laid arr off vs).toList.take (splice cs off ps).length = (arr.toList.take cs.length).take off ++ vs ++ (arr.toList.take cs.length).drop (off + ps.length) := by
    rw [splice_length hl, e1]
    exact take_seg arr.toList vs off cs.length (by omega) e3
  rw [hr]
  exact WL_append (WL_append (WL_take h off) hp) (WL_drop h _)
end Go.Pvm
