/-
  A part of the proof: Py2.
-/
import Derived.Test.YtmjnfdjhaopeiaaGreatDoorPy1
import Derived.ChangeArms
/-
  What an argument of type api.Val reads as is a tree.
-/
namespace Go.Pvm
open Go

theorem list_of {α : Type} {Q : Nat → α → Prop} : ∀ (n : Nat), (∀ i, i < n → ∃ x, Q i x) → ∃ l : List α, l.length = n ∧ ∀ i x, l[i]? = some x → Q i x
  | 0, _ => ⟨[], rfl, fun i x h => by simp at h⟩
  | n + 1, h => by
    obtain ⟨l, hl, hq⟩ := list_of (Q := Q) n (fun i hi => h i (by omega))
    obtain ⟨x, hx⟩ := h n (by omega)
    refine ⟨l ++ [x], by simp [hl], fun i y hy => ?_⟩
    rcases Nat.lt_or_ge i n with hi | hi
    · rw [List.getElem?_append_left (by omega)] at hy
      exact hq i y hy
    · rw [List.getElem?_append_right (by omega)] at hy
      have hi0 : i - l.length = 0 := by
        rcases Nat.eq_zero_or_pos (i - l.length) with h | h
        · exact h
        · rw [List.getElem?_eq_none (by simp; omega)] at hy; cases hy
      rw [hi0] at hy
      simp at hy
      have : i = n := by omega
      subst this; subst hy; exact hx

theorem VpC_append {w : World} {G : Nat → Prop} : ∀ {a b : List PV} {k o : Nat}, VpC w G (a ++ b) k o ↔ VpC w G a k o ∧ VpC w G b k (o + a.length)
  | [], b, k, o => by simp [VpC]
  | c :: a, b, k, o => by
    simp only [List.cons_append, VpC, VpC_append (a := a), List.length_cons, and_assoc]
    rw [show o + 1 + a.length = o + (a.length + 1) by omega]

theorem VpC_cellsL {w : World} {G : Nat → Prop} : ∀ {l : List Vl} {k o : Nat}, (∀ i v, l[i]? = some v → VpC w G v.cells k (o + i * 3)) → VpC w G (cellsL l) k o
  | [], k, o, _ => trivial
  | v :: r, k, o, h => by
    refine VpC_append.2 ⟨by simpa using h 0 v rfl, ?_⟩
    rw [cells_len]
    refine VpC_cellsL fun i u hu => ?_
    have := h (i + 1) u (by simpa using hu)
    rwa [show o + (i + 1) * 3 = o + 3 + i * 3 by omega] at this

theorem cell_spot {w : World} {a : Addr} {v : Value} (h : w.cell? a = some v) : a = ⟨a.block, a.off, none⟩ ∧ a.block < w.heap.size := by
  unfold World.cell? at h
  split at h
  · rename_i hb
    split at h
    · cases h
    · rename_i hs
      refine ⟨?_, (Array.getElem?_eq_some_iff.1 hb).1⟩
      cases a with
      | mk b o s => cases s with
        | none => rfl
        | some x => simp at hs
  · cases h

theorem add_plain (k o n : Nat) : (⟨k, o, none⟩ : Addr).add n = ⟨k, o + n, none⟩ := by
  unfold Addr.add
  split
  · rename_i h; subst h; rfl
  · rfl

theorem cells?_get {w : World} {base n : Nat} {a : Addr} {cs : List Value} (h : w.cells? base a n = some cs) : cs.length = n ∧ ∀ i, i < n → w.cell? (a.add i) = cs[i]? := by
  unfold World.cells? at h
  split at h
  · exact ⟨by simpa using mapM_some_length h, fun i hi => mapM_some_get h i i (by simp [hi])⟩
  · cases h

variable {H : Type} {enc : TypeId × Value → H} {P : Program} {w : World} {base : Nat} {spare : Nat → Bool} {held : Bool}

/-- A row of numbers. -/
theorem ints_of {tn ts : TypeId} (hn : P.underlying tn = some (.int .i64)) (hs : P.underlying ts = some (.slice tn)) (hc : P.cellsOf tn = 1) {fuel : Nat} {v : Value} {x : DataW H × List MemPlace}
    (h : DataW.trod enc P w base spare held fuel ts [v] = some x) : ∃ (us : Bool) (ss : List Int), Vp w (fun k => k < w.heap.size) (.sl us ss.length (ss.map i64)) v := by
  rcases DataW.trod_slice hs h with ⟨e, _⟩ | ⟨a, len, cap, elems, rest, n, _, e, _, _, hl, _, he, hel, _, _⟩
  · obtain rfl := (List.cons.inj e).1
    exact ⟨true, [], none, 0, rfl, Nat.le_refl _, fun _ => rfl, .inl rfl⟩
  · obtain rfl := (List.cons.inj e).1
    have hi : ∀ i, i < len → ∃ z : Int, w.cell? (a.add i) = some (.int .i64 z) := by
      intro i hi
      have h1 := hel i hi
      rw [List.getElem?_eq_getElem (by omega), hc, Nat.mul_one] at h1
      obtain ⟨cs, h2, h3⟩ := Option.bind_eq_some_iff.1 h1
      obtain ⟨h4, h5⟩ := cells?_get h2
      obtain ⟨z, rfl, _⟩ := DataW.trod_int hn h3
      have h6 := h5 0 (by omega)
      have e0 : (a.add i).add 0 = a.add i := by simp [Addr.add]
      rw [e0] at h6
      exact ⟨z, h6⟩
    obtain ⟨ss, hsl, hss⟩ := list_of len hi
    refine ⟨false, ss, some a, cap, by rw [hsl], by omega, fun e => (by cases e), ?_⟩
    cases ss with
    | nil => exact .inl rfl
    | cons z ss =>
      have h0 := hss 0 z rfl
      rw [show a.add 0 = a by simp [Addr.add]] at h0
      obtain ⟨ea, hlt⟩ := cell_spot h0
      refine .inr ⟨a.block, a.off, by rw [← ea], hlt, VpC_iff.2 fun i p hp => ?_⟩
      rw [List.getElem?_map] at hp
      obtain ⟨y, hy, rfl⟩ := Option.map_eq_some_iff.1 hp
      have := hss i y hy
      rw [ea, add_plain] at this
      exact ⟨_, this, rfl⟩

/-- The types of api.Val. -/
structure ValTypes (P : Program) (tv tn ts tl : TypeId) : Prop where
  hn : P.underlying tn = some (.int .i64)
  hs : P.underlying ts = some (.slice tn)
  hl : P.underlying tl = some (.slice tv)
  hv : ∃ f0 f1 f2 : Field, P.underlying tv = some (.struct #[f0, f1, f2]) ∧ f0.type = tn ∧ f1.type = ts ∧ f2.type = tl ∧ f0.offset = 0 ∧ f1.offset = 1 ∧ f2.offset = 2
  cn : P.cellsOf tn = 1
  cs : P.cellsOf ts = 1
  cl : P.cellsOf tl = 1
  cv : P.cellsOf tv = 3

/-- What reads as an api.Val is a tree. -/
theorem tree_of {tv tn ts tl : TypeId} (T : ValTypes P tv tn ts tl) : ∀ (fuel : Nat) (cs : List Value) (x : DataW H × List MemPlace), DataW.trod enc P w base spare held fuel tv cs = some x →
    ∃ a : Vl, VpL w (fun k => k < w.heap.size) a.cells cs := by
  intro fuel
  induction fuel using Nat.strongRecOn with
  | _ fuel ih =>
    intro cs x h
    obtain ⟨f0, f1, f2, hv, e0, e1, e2, o0, o1, o2⟩ := T.hv
    obtain ⟨xs, n, rfl, _, hlen, hxl, hf⟩ := DataW.trod_struct hv h
    rw [T.cv] at hlen
    match cs, hlen with
    | [v0, v1, v2], _ =>
      have hx : xs.length = 3 := by simpa using hxl
      have h0 := hf 0 f0 rfl
      have h1 := hf 1 f1 rfl
      have h2 := hf 2 f2 rfl
      rw [e0, o0, T.cn, List.getElem?_eq_getElem (by omega)] at h0
      rw [e1, o1, T.cs, List.getElem?_eq_getElem (by omega)] at h1
      rw [e2, o2, T.cl, List.getElem?_eq_getElem (by omega)] at h2
      simp only [List.drop_zero, List.take_succ_cons, List.take_zero, List.drop_succ_cons] at h0 h1 h2
      obtain ⟨N, en, _⟩ := DataW.trod_int T.hn h0
      obtain rfl := (List.cons.inj en).1
      obtain ⟨us, ss, hvs⟩ := ints_of T.hn T.hs T.cn h1
      have hvl : ∃ (ul : Bool) (l : List Vl), Vp w (fun k => k < w.heap.size) (.sl ul l.length (cellsL l)) v2 := by
        rcases DataW.trod_slice T.hl h2 with ⟨e, _⟩ | ⟨a, len, cap, elems, rest, m, hm, e, _, _, hl, _, he, hel, _, _⟩
        · obtain rfl := (List.cons.inj e).1
          exact ⟨true, [], none, 0, rfl, Nat.le_refl _, fun _ => rfl, .inl rfl⟩
        · obtain rfl := (List.cons.inj e).1
          have hi : ∀ i, i < len → ∃ v : Vl, ∃ cs : List Value, w.cells? base (a.add (i * 3)) 3 = some cs ∧ VpL w (fun k => k < w.heap.size) v.cells cs := by
            intro i hi
            have h3 := hel i hi
            rw [List.getElem?_eq_getElem (by omega), T.cv] at h3
            obtain ⟨cs, h4, h5⟩ := Option.bind_eq_some_iff.1 h3
            obtain ⟨v, hv⟩ := ih m (by omega) cs _ h5
            exact ⟨v, cs, h4, hv⟩
          obtain ⟨l, hll, hls⟩ := list_of len hi
          refine ⟨false, l, some a, cap, by rw [hll], by omega, fun e => (by cases e), ?_⟩
          cases l with
          | nil => exact .inl rfl
          | cons v l =>
            obtain ⟨cs0, g1, g2⟩ := hls 0 v rfl
            obtain ⟨g3, g4⟩ := cells?_get g1
            have g5 := g4 0 (by omega)
            rw [List.getElem?_eq_getElem (by omega)] at g5
            rw [show (a.add (0 * 3)).add 0 = a by simp [Addr.add]] at g5
            obtain ⟨ea, hlt⟩ := cell_spot g5
            refine .inr ⟨a.block, a.off, by rw [← ea], hlt, VpC_cellsL fun i u hu => ?_⟩
            obtain ⟨cs1, k1, k2⟩ := hls i u hu
            obtain ⟨k3, k4⟩ := cells?_get k1
            obtain ⟨q1, q2⟩ := VpL_iff.1 k2
            refine VpC_iff.2 fun j p hp => ?_
            have hj : j < 3 := by
              have := (List.getElem?_eq_some_iff.1 hp).1
              rw [cells_len] at this; exact this
            have k5 := k4 j hj
            rw [List.getElem?_eq_getElem (by omega)] at k5
            rw [ea, add_plain, add_plain] at k5
            exact ⟨_, k5, q2 j p _ hp (List.getElem?_eq_getElem (by omega))⟩
      obtain ⟨ul, l, hvl⟩ := hvl
      exact ⟨.mk N us ss ul l, _, _, rfl, rfl, _, _, rfl, hvs, _, _, rfl, hvl, rfl⟩
end Go.Pvm
