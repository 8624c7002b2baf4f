/-
  A part of the proof: Pv7.
-/
import Derived.Test.YtmjnfdjhaopeiaaGreatDoorPv6
import Derived.Laws.Tables
/-
  PVM, part 7: what is built.
-/
namespace Go.Pvm
open Go
section
variable {P : Program}

theorem fold_laid : ∀ (l : List (Value × Nat)) (arr : Array Value) (off n : Nat), (∀ i c, l[i]? = some c → c.2 = n + i) → off + n + l.length ≤ arr.size →
    l.foldl (fun cs (c, j) => cs.setIfInBounds (off + j) c) arr = laid arr (off + n) (l.map (·.1))
  | [], arr, off, n, _, _ => by
    apply Array.ext'; simp [laid]
  | (c, j) :: r, arr, off, n, h, hl => by
    have hj : j = n := h 0 (c, j) rfl
    subst hj
    simp only [List.foldl_cons, List.length_cons] at hl ⊢
    rw [fold_laid r _ off (j + 1) (fun i x hx => by have := h (i + 1) x (by simpa using hx); omega) (by simp; omega)]
    apply Array.ext'
    have e := list_seg_step arr.toList (off + j) c (r.map (·.1)) (by simp; omega)
    simp only [laid, Array.toList_setIfInBounds, List.map_cons, List.length_cons, List.length_map] at e ⊢
    simpa [Nat.add_assoc, Nat.add_comm 1] using e

theorem fill_laid (arr : Array Value) (off : Nat) (vs : Array Value) (h : off + vs.size ≤ arr.size) :
    vs.zipIdx.foldl (fun cs (c, j) => cs.setIfInBounds (off + j) c) arr = laid arr off vs.toList := by
  rw [← Array.foldl_toList, Array.toList_zipIdx]
  have := fold_laid (vs.toList.zipIdx) arr off 0 (fun i c hc => by
    rw [List.getElem?_zipIdx] at hc
    obtain ⟨v, hv, rfl⟩ := Option.map_eq_some_iff.1 hc
    simp) (by simp; omega)
  simpa using this

/-- Parts, with their places. -/
def WParts (E : Env) : List (Nat × PV) → List (Nat × Value) → Prop
  | [], [] => True
  | (i, p) :: r, (j, v) :: s => i = j ∧ W E p v ∧ WParts E r s
  | _, _ => False

theorem fill_sound {E : Env} {place : Nat → Option (Nat × Nat)} : ∀ {ps : List (Nat × PV)} {vs : List (Nat × Value)} {cs r : List PV} {arr : Array Value},
    fillO place cs ps = some r → WParts E ps vs → WL E cs arr.toList → ∃ arr', Instr.fill place arr vs = some arr' ∧ WL E r arr'.toList ∧ arr'.size = arr.size ∧ r.length = cs.length
  | [], vs, cs, r, arr, h, hp, hw => by
    cases vs with
    | nil => simp only [fillO] at h; obtain rfl := Option.some.inj h; exact ⟨arr, rfl, hw, rfl, rfl⟩
    | cons a b => exact hp.elim
  | (i, p) :: ps, vs, cs, r, arr, h, hp, hw => by
    cases vs with
    | nil => exact hp.elim
    | cons a vs =>
      obtain ⟨j, v⟩ := a
      obtain ⟨rfl, hv, hps⟩ := hp
      simp only [fillO] at h
      split at h
      · rename_i off sz qs hpl hq
        split at h
        · rename_i hc
          obtain ⟨c1, c2⟩ := hc
          obtain ⟨d1, d2, d3⟩ := cells_sound hq hv
          have hlen : cs.length = arr.size := by simpa using (WL_iff.1 hw).1
          have hfit : off + v.cells.size ≤ arr.size := by omega
          have hw' : WL E (splice cs off qs) (laid arr off v.cells.toList).toList := by
            have := WL_laid (arr := arr) (cs := cs) (off := off) (by rwa [List.take_of_length_le (by simp; omega)]) d1 (by omega)
            rwa [List.take_of_length_le (by rw [splice_length (by omega)]; simp [laid_size (arr := arr) (off := off) (vs := v.cells.toList) (by simpa using hfit)]; omega)] at this
          obtain ⟨arr', h1, h2, h3, h4⟩ := fill_sound h hps hw'
          refine ⟨arr', ?_, h2, by rw [h3, laid_size (by simpa using hfit)], by rw [h4, splice_length (by omega)]⟩
          have e1 : ¬ (v.cells.size ≠ sz) := by omega
          have e2 : ¬ (arr.size < off + v.cells.size) := by omega
          simp only [Instr.fill, hpl]
          rw [if_neg (by simp [e2]; omega), fill_laid arr off v.cells hfit]
          exact h1
        · cases h
      · cases h

theorem zeros_some {t : TypeId} {z : List PV} (h : zeros P t = some z) : ∃ i zv, P.info? t = some i ∧ i.zero = some zv ∧ z = zv.cells.toList.map ofCell := by
  unfold zeros at h
  obtain ⟨zv, h1, rfl⟩ := Option.map_eq_some_iff.1 h
  obtain ⟨i, h2, h3⟩ := Option.bind_eq_some_iff.1 h1
  exact ⟨i, zv, h2, h3, rfl⟩

theorem build_sound {E : Env} {t : TypeId} {ps : List (Nat × PV)} {vs : Array (Nat × Value)} {x : PV} (h : buildO P t ps = some x) (hp : WParts E ps vs.toList) :
    ∃ v, (Instr.build t vs).run P E.w = .ok v E.w ∧ W E x v := by
  unfold buildO at h
  split at h
  · rename_i fs z hu hz
    obtain ⟨i, zv, hi, hzv, rfl⟩ := zeros_some hz
    split at h
    · rename_i places hpl
      obtain ⟨cs, hf, rfl⟩ := Option.map_eq_some_iff.1 h
      obtain ⟨arr', h1, h2, _⟩ := fill_sound hf hp (WL_ofCells E zv.cells.toList)
      refine ⟨.agg arr', ?_, arr'.toList, by simp, h2⟩
      have hrp := run_places (P := P) E.w fs.toList places hpl
      have h1' : Instr.fill (fun x => places[x]?) zv.cells vs.toList = some arr' := by simpa using h1
      simp [Instr.build, run_underlying hu, typeInfo, zeroValue, hi, hzv, Array.mapM_eq_mapM_toList, hrp, h1']
    · cases h
  · rename_i n e z hu hz
    obtain ⟨i, zv, hi, hzv, rfl⟩ := zeros_some hz
    split at h
    · rename_i sz hsz
      obtain ⟨cs, hf, rfl⟩ := Option.map_eq_some_iff.1 h
      obtain ⟨arr', h1, h2, _⟩ := fill_sound hf hp (WL_ofCells E zv.cells.toList)
      refine ⟨.agg arr', ?_, arr'.toList, by simp, h2⟩
      have h1' : Instr.fill (fun i => some (i * sz, sz)) zv.cells vs.toList = some arr' := by simpa using h1
      simp [Instr.build, run_underlying hu, typeInfo, zeroValue, hi, hzv, run_size hsz, h1']
    · cases h
  · cases h

theorem rep_length {α : Type} (n : Nat) (l : List α) : (rep n l).length = n * l.length := by
  induction n with
  | zero => simp [rep]
  | succ n ih => simp [rep, ih, Nat.succ_mul, Nat.add_comm]

theorem rep_get {α : Type} (l : List α) : ∀ (n i : Nat), i < n * l.length → (rep n l)[i]? = l[i % l.length]?
  | 0, i, h => by simp at h
  | n + 1, i, h => by
    simp only [rep]
    rcases Nat.lt_or_ge i l.length with hi | hi
    · rw [List.getElem?_append_left hi, Nat.mod_eq_of_lt hi]
    · rw [List.getElem?_append_right hi, rep_get l n (i - l.length) (by rw [Nat.succ_mul] at h; omega)]
      congr 1
      rw [Nat.mod_eq_sub_mod hi]

theorem rep_map {α β : Type} (f : α → β) (l : List α) : ∀ n, (rep n l).map f = rep n (l.map f)
  | 0 => rfl
  | n + 1 => by simp [rep, rep_map f l n]

/-- The zero cells of a row, as the model lays them. -/
theorem zero_cells (z : Array Value) (n : Nat) (hz : 0 < z.size) : ((Array.range (n * z.size)).map (z[· % z.size]!)).toList = rep n z.toList := by
  apply List.ext_getElem?
  intro i
  rcases Nat.lt_or_ge i (n * z.size) with hi | hi
  · rw [rep_get z.toList n i (by simpa using hi)]
    have hm : i % z.size < z.size := Nat.mod_lt _ hz
    simp [hi, hm]
  · rw [List.getElem?_eq_none (by simpa using hi), List.getElem?_eq_none (by rw [rep_length]; simpa using hi)]

theorem buildSlice_sound {E : Env} (hI : Inv E) {t : TypeId} {n : Nat} {ps : List (Nat × PV)} {vs : Array (Nat × Value)} {x : PV} (h : buildSliceO P t n ps = some x) (hp : WParts E ps vs.toList) :
    ∃ v E', (Instr.buildSlice t n vs).run P E.w = .ok v E'.w ∧ Step E E' ∧ E'.S = E.S ∧ E'.L = E.L ∧ W E' x v := by
  unfold buildSliceO at h
  split at h
  · rename_i e hu
    split at h
    · rename_i sz z hsz hz
      obtain ⟨i, zv, hi, hzv, rfl⟩ := zeros_some hz
      split at h
      · rename_i hc
        obtain ⟨c1, c2, c3⟩ := hc
        split at h
        · rename_i cs hf
          split at h
          · rename_i hpure
            obtain rfl := Option.some.inj h
            have hzs : zv.cells.size = sz := by simpa using c2
            have hW : WL E (rep n (zv.cells.toList.map ofCell)) ((Array.range (n * sz)).map (zv.cells[· % zv.cells.size]!)).toList := by
              have := WL_ofCells E (rep n zv.cells.toList)
              rw [rep_map] at this
              rw [← hzs, zero_cells _ _ (by omega)]
              exact this
            obtain ⟨arr', h1, h2, h3, h4⟩ := fill_sound hf hp hW
            refine ⟨.slice (some ⟨E.w.heap.size, 0, none⟩) n n, _, ?_, Step.fresh hI arr' e, rfl, rfl, some ⟨E.w.heap.size, 0, none⟩, n, rfl, Nat.le_refl _, fun _ => rfl, .inr ⟨_, _, rfl, .inr rfl, ?_⟩⟩
            · have e1 : ¬ (16777216 < n * sz) := by omega
              by_cases e0 : n * sz = 0
              · have hn : n = 0 := by
                  rcases Nat.mul_eq_zero.1 e0 with e0 | e0
                  · exact e0
                  · omega
                subst hn
                have hr : ∀ f : Nat → Value, (Array.range (0 * sz)).map f = #[] := by intro f; apply Array.ext'; simp
                have h1' : Instr.fill (fun i => some (i * sz, sz)) #[] vs.toList = some arr' := by rw [hr] at h1; simpa using h1
                simp only [Instr.buildSlice, run_underlying hu, run_size hsz, Sem.run_bind, Result.andThen_ok, hr, if_neg e1, if_pos e0, Sem.run_pure, h1']
                simp [newRow]
              · have h1' : Instr.fill (fun i => some (i * sz, sz)) ((Array.range (n * sz)).map (zv.cells[· % zv.cells.size]!)) vs.toList = some arr' := by simpa using h1
                simp [Instr.buildSlice, run_underlying hu, run_size hsz, e1, e0, typeInfo, zeroValue, hi, hzv, h1', newRow]
            · have hle : Le E { E with w := E.w.alloc (.cells arr' e), G := fun k => E.G k ∨ k = E.w.heap.size } := (Step.fresh hI arr' e).ext.le hI
              have hv2 := VpL.mono (w' := E.w.alloc (.cells arr' e)) (G' := fun k => E.G k ∨ k = E.w.heap.size) hle.g cs arr'.toList (VpL_of_WL cs _ hpure h2)
              obtain ⟨q1, q2⟩ := VpL_iff.1 hv2
              refine VpC_iff.2 fun j p hpj => ?_
              have hj : j < cs.length := by
                rcases Nat.lt_or_ge j cs.length with h' | h'
                · exact h'
                · simp [List.getElem?_eq_none h'] at hpj
              have hj' : j < arr'.size := by simpa [q1] using hj
              refine ⟨arr'[j], ?_, q2 j p _ hpj (by simp [hj'])⟩
              simp [hj']
          · cases h
        · cases h
      · cases h
    · cases h
  · cases h
end
end Go.Pvm
