/-
  A part of the proof: Pv2.
-/
import Derived.Test.YtmjnfdjhaopeiaaGreatDoorPv1
/-
  PVM, part 2: what the operations do to a world, and to what is known of it.
-/
namespace Go.Pvm
open Go

theorem Holds.mono {E E' : Env} (h : Le E E') {k : Nat} {cs : List PV} {n : Nat} (hk : E'.w.heap[k]? = E.w.heap[k]?) (hh : Holds E k cs n) : Holds E' k cs n := by
  obtain ⟨arr, T, h1, h2, h3, h4⟩ := hh.ex
  exact ⟨arr, T, hk.trans h1, h2, h3, WL.mono h _ _ h4⟩

theorem Holds.lt {E : Env} {k : Nat} {cs : List PV} {n : Nat} (h : Holds E k cs n) : k < E.w.heap.size := by
  obtain ⟨arr, T, h1, _⟩ := h.ex
  rcases Nat.lt_or_ge k E.w.heap.size with h' | h'
  · exact h'
  · simp [Array.getElem?_eq_none h'] at h1

theorem Mod.lt {E : Env} (hi : Inv E) {k : Nat} (h : Mod E k) : k < E.w.heap.size := by
  rcases h with ⟨b, bx, hb, hk⟩ | ⟨d, cs, hd, rfl⟩
  · exact ((hi.box b bx hb).2.2.1 k hk).lt
  · exact (hi.loc d cs hd).lt

/-- A step that keeps the locals. -/
structure Step (E E' : Env) : Prop where
  ext : Ext E E'
  inv : Inv E'
  loc : ∀ d cs, look E.L d = some cs → (∃ cs', look E'.L d = some cs') ∧ E'.l d = E.l d

theorem V.mono {E E' : Env} (hi : Inv E) (h : Step E E') {p : RV} {v : Value} (hv : V E p v) : V E' p v := by
  cases p with
  | v p => exact W.mono (h.ext.le hi) _ _ hv
  | loc d off =>
    obtain ⟨cs, h1, h2⟩ := hv
    obtain ⟨⟨cs', h3⟩, h4⟩ := h.loc _ _ h1
    exact ⟨cs', h3, h4 ▸ h2⟩

theorem Step.refl {E : Env} (h : Inv E) : Step E E := ⟨Ext.refl E, h, fun _ cs h => ⟨⟨cs, h⟩, rfl⟩⟩
theorem Step.trans {A B C : Env} (h : Step A B) (k : Step B C) : Step A C :=
  ⟨h.ext.trans k.ext, k.inv, fun d cs hd => by
    obtain ⟨⟨cs', h1⟩, h2⟩ := h.loc d cs hd
    obtain ⟨h3, h4⟩ := k.loc d cs' h1
    exact ⟨h3, h4.trans h2⟩⟩

/-- Nothing but a draw. -/
theorem Step.drew {E : Env} (h : Inv E) : Step E { E with w := E.w.drew } := by
  have hext : Ext E { E with w := E.w.drew } :=
    ⟨rfl, rfl, rfl, Nat.le_refl _, fun _ _ _ => rfl, fun _ h => h, fun _ h => .inl h, fun _ h => .inr h, Nat.le_refl _,
      fun _ bx' _ h => ⟨bx', h, fun _ => ⟨rfl, rfl, rfl⟩, Nat.le_refl _⟩⟩
  have hle := hext.le h
  refine ⟨hext, ⟨h.gam, fun b bx hb => ?_, h.inj, fun d cs hd => ?_, h.linj, h.apart⟩, fun _ cs h => ⟨⟨cs, h⟩, rfl⟩⟩
  · obtain ⟨h1, h2, h3, h4⟩ := h.box b bx hb
    exact ⟨h1, h2, fun k hk => (h3 k hk).mono hle rfl, h4⟩
  · exact (h.loc d cs hd).mono hle rfl

theorem heap_alloc_lt (w : World) (o : Obj) {k : Nat} (h : k < w.heap.size) : (w.alloc o).heap[k]? = w.heap[k]? := by
  show (w.heap.push o)[k]? = _
  rw [Array.getElem?_push, if_neg (by omega)]

theorem heap_alloc_new (w : World) (o : Obj) : (w.alloc o).heap[w.heap.size]? = some o := by
  show (w.heap.push o)[w.heap.size]? = _
  simp

/-- A new block that is never written again. -/
theorem Step.fresh {E : Env} (h : Inv E) (arr : Array Value) (T : TypeId) :
    Step E { E with w := E.w.alloc (.cells arr T), G := fun k => E.G k ∨ k = E.w.heap.size } := by
  have hext : Ext E { E with w := E.w.alloc (.cells arr T), G := fun k => E.G k ∨ k = E.w.heap.size } :=
    ⟨rfl, rfl, rfl, by simp, fun k hk _ => heap_alloc_lt _ _ hk, fun _ h => .inl h, fun k hk => hk.elim .inl fun e => .inr (.inl (by omega)), fun _ h => .inr h, Nat.le_refl _,
      fun _ bx' _ h => ⟨bx', h, fun _ => ⟨rfl, rfl, rfl⟩, Nat.le_refl _⟩⟩
  have hle := hext.le h
  refine ⟨hext, ⟨fun k hk => ?_, fun b bx hb => ?_, h.inj, fun d cs hd => ?_, h.linj, h.apart⟩, fun _ cs h => ⟨⟨cs, h⟩, rfl⟩⟩
  · have hs : (E.w.alloc (.cells arr T)).heap.size = E.w.heap.size + 1 := by simp
    rcases hk with hk | hk
    · obtain ⟨h1, h2⟩ := h.gam k hk
      exact ⟨by show k < (E.w.alloc _).heap.size; omega, h2⟩
    · subst hk
      exact ⟨by show E.w.heap.size < (E.w.alloc _).heap.size; omega, fun hm => by have := Mod.lt h hm; omega⟩
  · obtain ⟨h1, h2, h3, h4⟩ := h.box b bx hb
    exact ⟨h1, h2, fun k hk => (h3 k hk).mono hle (heap_alloc_lt _ _ (h3 k hk).lt), h4⟩
  · exact (h.loc d cs hd).mono hle (heap_alloc_lt _ _ (h.loc d cs hd).lt)

/-! ### the store's lists -/
def put {α : Type} (l : List (Nat × α)) (k : Nat) (x : α) : List (Nat × α) :=
  match l with
  | [] => [(k, x)]
  | (j, y) :: r => if j = k then (k, x) :: r else (j, y) :: put r k x

theorem look_put {α : Type} (l : List (Nat × α)) (k : Nat) (x : α) (j : Nat) : look (put l k x) j = if k = j then some x else look l j := by
  induction l with
  | nil => simp [put, look]
  | cons p r ih =>
    obtain ⟨i, y⟩ := p
    simp only [put]
    by_cases h : i = k
    · subst h
      simp only [if_true, look]
      by_cases h2 : i = j
      · simp [h2]
      · simp [h2]
    · simp only [if_neg h, look, ih]
      by_cases h2 : i = j
      · subst h2; simp [Ne.symm h]
      · simp [h2]

def Store.put (S : Store) (b : Nat) (bx : Box) : Store := { S with bs := Pvm.put S.bs b bx }
def Store.add (S : Store) (bx : Box) : Store := { bs := (S.next, bx) :: S.bs, next := S.next + 1 }

theorem Store.get_put (S : Store) (b : Nat) (bx : Box) (j : Nat) : (S.put b bx).get j = if b = j then some bx else S.get j := look_put _ _ _ _
theorem Store.get_add (S : Store) (bx : Box) (j : Nat) : (S.add bx).get j = if S.next = j then some bx else S.get j := rfl

def upd {α : Type} (f : Nat → α) (k : Nat) (x : α) (j : Nat) : α := if j = k then x else f j

/-- A new box, in a new block. -/
theorem Step.box {E : Env} (h : Inv E) (arr : Array Value) (T : TypeId) (bx : Box) (h0 : 0 < bx.esz) (hl : bx.cs.length ≤ arr.size) (hv : WL E bx.cs (arr.toList.take bx.cs.length)) :
    Step E { E with w := E.w.alloc (.cells arr T), sg := upd E.sg E.S.next (some E.w.heap.size), z := upd E.z E.S.next arr.size, S := E.S.add bx } := by
  have hnew : ∀ b bx', E.S.get b = some bx' → b ≠ E.S.next := fun b bx' hb e => by have := (h.box b bx' hb).1; omega
  have hext : Ext E { E with w := E.w.alloc (.cells arr T), sg := upd E.sg E.S.next (some E.w.heap.size), z := upd E.z E.S.next arr.size, S := E.S.add bx } := by
    refine ⟨rfl, rfl, rfl, by simp, fun k hk _ => heap_alloc_lt _ _ hk, fun _ h => h, fun k hk => .inl hk, fun k hm => ?_, Nat.le_succ _, fun b bx' hb hx => ?_⟩
    · rcases hm with ⟨b, bx', hb, hk⟩ | ⟨d, cs, hd, rfl⟩
      · simp only [Store.get_add] at hb
        by_cases e : E.S.next = b
        · subst e; simp [upd] at hk; exact .inl (by omega)
        · rw [if_neg e] at hb
          have hk' : E.sg b = some k := by simpa [upd, Ne.symm e] using hk
          exact .inr (.inl ⟨b, bx', hb, hk'⟩)
      · exact .inr (.inr ⟨d, cs, hd, rfl⟩)
    · have e : ¬ E.S.next = b := by omega
      simp only [Store.get_add, if_neg e] at hx
      exact ⟨bx', hx, fun _ => ⟨by simp [upd, Ne.symm e], rfl, by simp [upd, Ne.symm e]⟩, Nat.le_refl _⟩
  have hle := hext.le h
  refine ⟨hext, ⟨fun k hk => ?_, fun b bx' hb => ?_, fun b b' bx1 bx2 k hb hb' hk hk' => ?_, fun d cs hd => ?_, h.linj, fun b bx' d cs hb hd => ?_⟩, fun _ cs h => ⟨⟨cs, h⟩, rfl⟩⟩
  · obtain ⟨h1, h2⟩ := h.gam k hk
    refine ⟨Nat.lt_of_lt_of_le h1 hext.size, fun hm => ?_⟩
    rcases hext.mod k hm with e | e
    · omega
    · exact h2 e
  · simp only [Store.get_add] at hb
    by_cases e : E.S.next = b
    · subst e
      simp at hb
      subst hb
      refine ⟨Nat.lt_succ_self _, h0, fun k hk => ?_, fun hk => by simp [upd] at hk⟩
      simp [upd] at hk
      subst hk
      exact ⟨arr, T, heap_alloc_new _ _, by simp [upd], by simpa [upd] using hl, WL.mono hle _ _ hv⟩
    · rw [if_neg e] at hb
      obtain ⟨h1, h2, h3, h4⟩ := h.box b bx' hb
      have hz : upd E.z E.S.next arr.size b = E.z b := by simp [upd, Ne.symm e]
      have hsg : upd E.sg E.S.next (some E.w.heap.size) b = E.sg b := by simp [upd, Ne.symm e]
      refine ⟨Nat.lt_succ_of_lt h1, h2, fun k hk => ?_, fun hk => ?_⟩
      · simp only [hsg] at hk; simp only [hz]
        exact (h3 k hk).mono hle (heap_alloc_lt _ _ (h3 k hk).lt)
      · simp only [hsg] at hk; simp only [hz]; exact h4 hk
  · simp only [Store.get_add] at hb hb'
    simp only [upd] at hk hk'
    by_cases e : E.S.next = b <;> by_cases e' : E.S.next = b'
    · omega
    · exfalso
      rw [if_neg e'] at hb'
      rw [if_pos e.symm] at hk
      rw [if_neg (Ne.symm e')] at hk'
      have := ((h.box b' bx2 hb').2.2.1 k hk').lt
      simp at hk; omega
    · exfalso
      rw [if_neg e] at hb
      rw [if_pos e'.symm] at hk'
      rw [if_neg (Ne.symm e)] at hk
      have := ((h.box b bx1 hb).2.2.1 k hk).lt
      simp at hk'; omega
    · rw [if_neg e] at hb; rw [if_neg e'] at hb'
      rw [if_neg (Ne.symm e)] at hk; rw [if_neg (Ne.symm e')] at hk'
      exact h.inj b b' bx1 bx2 k hb hb' hk hk'
  · exact (h.loc d cs hd).mono hle (heap_alloc_lt _ _ (h.loc d cs hd).lt)
  · simp only [Store.get_add] at hb
    simp only [upd]
    by_cases e : E.S.next = b
    · rw [if_pos e.symm]
      intro hc
      have := (h.loc d cs hd).lt
      simp at hc; omega
    · rw [if_neg e] at hb; rw [if_neg (Ne.symm e)]
      exact h.apart b bx' d cs hb hd

/-- A new box that has no block yet: an empty slice. -/
theorem Step.boxNone {E : Env} (h : Inv E) (esz : Nat) (h0 : 0 < esz) :
    Step E { E with sg := upd E.sg E.S.next none, z := upd E.z E.S.next 0, S := E.S.add ⟨0, esz, []⟩ } := by
  have hext : Ext E { E with sg := upd E.sg E.S.next none, z := upd E.z E.S.next 0, S := E.S.add ⟨0, esz, []⟩ } := by
    refine ⟨rfl, rfl, rfl, Nat.le_refl _, fun k hk _ => rfl, fun _ h => h, fun k hk => .inl hk, fun k hm => ?_, Nat.le_succ _, fun b bx' hb hx => ?_⟩
    · rcases hm with ⟨b, bx', hb, hk⟩ | ⟨d, cs, hd, rfl⟩
      · simp only [Store.get_add] at hb
        by_cases e : E.S.next = b
        · subst e; simp [upd] at hk
        · rw [if_neg e] at hb
          have hk' : E.sg b = some k := by simpa [upd, Ne.symm e] using hk
          exact .inr (.inl ⟨b, bx', hb, hk'⟩)
      · exact .inr (.inr ⟨d, cs, hd, rfl⟩)
    · have e : ¬ E.S.next = b := by omega
      simp only [Store.get_add, if_neg e] at hx
      exact ⟨bx', hx, fun _ => ⟨by simp [upd, Ne.symm e], rfl, by simp [upd, Ne.symm e]⟩, Nat.le_refl _⟩
  have hle := hext.le h
  refine ⟨hext, ⟨fun k hk => ?_, fun b bx' hb => ?_, fun b b' bx1 bx2 k hb hb' hk hk' => ?_, fun d cs hd => ?_, h.linj, fun b bx' d cs hb hd => ?_⟩, fun _ cs h => ⟨⟨cs, h⟩, rfl⟩⟩
  · obtain ⟨h1, h2⟩ := h.gam k hk
    refine ⟨h1, fun hm => ?_⟩
    rcases hext.mod k hm with e | e
    · omega
    · exact h2 e
  · simp only [Store.get_add] at hb
    by_cases e : E.S.next = b
    · subst e
      simp at hb
      subst hb
      exact ⟨Nat.lt_succ_self _, h0, fun k hk => by simp [upd] at hk, fun _ => ⟨rfl, by simp [upd]⟩⟩
    · rw [if_neg e] at hb
      obtain ⟨h1, h2, h3, h4⟩ := h.box b bx' hb
      have hz : upd E.z E.S.next 0 b = E.z b := by simp [upd, Ne.symm e]
      have hsg : upd E.sg E.S.next none b = E.sg b := by simp [upd, Ne.symm e]
      refine ⟨Nat.lt_succ_of_lt h1, h2, fun k hk => ?_, fun hk => ?_⟩
      · simp only [hsg] at hk; simp only [hz]
        exact (h3 k hk).mono hle rfl
      · simp only [hsg] at hk; simp only [hz]; exact h4 hk
  · simp only [Store.get_add] at hb hb'
    simp only [upd] at hk hk'
    by_cases e : E.S.next = b <;> by_cases e' : E.S.next = b'
    · omega
    · rw [if_pos e.symm] at hk; cases hk
    · rw [if_pos e'.symm] at hk'; cases hk'
    · rw [if_neg e] at hb; rw [if_neg e'] at hb'
      rw [if_neg (Ne.symm e)] at hk; rw [if_neg (Ne.symm e')] at hk'
      exact h.inj b b' bx1 bx2 k hb hb' hk hk'
  · exact (h.loc d cs hd).mono hle rfl
  · simp only [Store.get_add] at hb
    simp only [upd]
    by_cases e : E.S.next = b
    · rw [if_pos e.symm]
      intro hc; cases hc
    · rw [if_neg e] at hb; rw [if_neg (Ne.symm e)]
      exact h.apart b bx' d cs hb hd

/-! ### writing -/
/-- A block is laid anew. -/
def wput (w : World) (k : Nat) (o : Obj) : World := { w with heap := w.heap.setIfInBounds k o }

theorem heap_wput_ne (w : World) (k : Nat) (o : Obj) {j : Nat} (h : j ≠ k) : (wput w k o).heap[j]? = w.heap[j]? := by
  simp only [wput, Array.getElem?_setIfInBounds]
  rw [if_neg (Ne.symm h)]

theorem heap_wput_same (w : World) (k : Nat) (o : Obj) (h : k < w.heap.size) : (wput w k o).heap[k]? = some o := by
  simp only [wput, Array.getElem?_setIfInBounds]
  simp [h]

theorem size_wput (w : World) (k : Nat) (o : Obj) : (wput w k o).heap.size = w.heap.size := by simp [wput]

/-- A box's content turns (its version stays, or grows); its block is laid anew, or it has a new block. -/
theorem Step.write {E : Env} (h : Inv E) {b : Nat} {bx bx' : Box} (hb : E.S.get b = some bx) {k : Nat} (hk : E.sg b = some k)
    {arr : Array Value} {T : TypeId} (hsz : arr.size = E.z b) (hl : bx'.cs.length ≤ arr.size) (hver : bx.ver ≤ bx'.ver) (he : bx'.esz = bx.esz)
    (hv : WL E bx'.cs (arr.toList.take bx'.cs.length)) :
    Step E { E with w := wput E.w k (.cells arr T (0, 0)), S := E.S.put b bx' } := by
  have hmod : ∀ j, Mod { E with w := wput E.w k (.cells arr T (0, 0)), S := E.S.put b bx' } j → Mod E j := by
    intro j hm
    rcases hm with ⟨c, cx, hc, hj⟩ | ⟨d, cs, hd, rfl⟩
    · simp only [Store.get_put] at hc
      by_cases e : b = c
      · subst e; exact .inl ⟨b, bx, hb, hj⟩
      · rw [if_neg e] at hc; exact .inl ⟨c, cx, hc, hj⟩
    · exact .inr ⟨d, cs, hd, rfl⟩
  have hext : Ext E { E with w := wput E.w k (.cells arr T (0, 0)), S := E.S.put b bx' } := by
    refine ⟨rfl, rfl, rfl, by simp [size_wput], fun j _ hm => heap_wput_ne _ _ _ (fun e => hm (.inl ⟨b, bx, hb, e ▸ hk⟩)), fun _ h => h, fun j hj => .inl hj, fun j hm => .inr (hmod j hm), Nat.le_refl _, fun c cx hc hx => ?_⟩
    simp only [Store.get_put] at hx
    by_cases e : b = c
    · subst e; simp at hx; subst hx
      exact ⟨bx, hb, fun _ => ⟨rfl, he, rfl⟩, hver⟩
    · rw [if_neg e] at hx
      exact ⟨cx, hx, fun _ => ⟨rfl, rfl, rfl⟩, Nat.le_refl _⟩
  have hle := hext.le h
  have hklt := ((h.box b bx hb).2.2.1 k hk).lt
  refine ⟨hext, ⟨fun j hj => ?_, fun c cx hc => ?_, fun c c' cx cx' j hc hc' hj hj' => ?_, fun d cs hd => ?_, h.linj, fun c cx d cs hc hd => ?_⟩, fun _ cs h => ⟨⟨cs, h⟩, rfl⟩⟩
  · obtain ⟨h1, h2⟩ := h.gam j hj
    exact ⟨by simpa [size_wput] using h1, fun hm => h2 (hmod j hm)⟩
  · simp only [Store.get_put] at hc
    by_cases e : b = c
    · subst e; simp at hc; subst hc
      obtain ⟨g1, g2, g3, g4⟩ := h.box b bx hb
      refine ⟨g1, by rw [he]; exact g2, fun j hj => ?_, fun hn => ?_⟩
      · have : j = k := by rw [hk] at hj; exact (Option.some.inj hj).symm
        subst this
        exact ⟨arr, T, heap_wput_same _ _ _ hklt, hsz, by rw [← hsz]; exact hl, WL.mono hle _ _ hv⟩
      · have hn' : E.sg b = none := hn
        rw [hk] at hn'; cases hn'
    · rw [if_neg e] at hc
      obtain ⟨g1, g2, g3, g4⟩ := h.box c cx hc
      refine ⟨g1, g2, fun j hj => ?_, g4⟩
      have hne : j ≠ k := fun e' => e (h.inj b c bx cx k hb hc hk (e' ▸ hj))
      exact (g3 j hj).mono hle (heap_wput_ne _ _ _ hne)
  · simp only [Store.get_put] at hc hc'
    have g : ∀ x y, (if b = x then some bx' else E.S.get x) = some y → ∃ y', E.S.get x = some y' := by
      intro x y hxy
      by_cases e : b = x
      · subst e; exact ⟨bx, hb⟩
      · rw [if_neg e] at hxy; exact ⟨y, hxy⟩
    obtain ⟨y, hy⟩ := g c cx hc
    obtain ⟨y', hy'⟩ := g c' cx' hc'
    exact h.inj c c' y y' j hy hy' hj hj'
  · have hne : E.l d ≠ k := fun e => h.apart b bx d cs hb hd (e ▸ hk)
    exact (h.loc d cs hd).mono hle (heap_wput_ne _ _ _ hne)
  · simp only [Store.get_put] at hc
    by_cases e : b = c
    · subst e; exact h.apart b bx d cs hb hd
    · rw [if_neg e] at hc; exact h.apart c cx d cs hc hd

/-- A box gets a new block, and a later version. -/
theorem Step.regrow {E : Env} (h : Inv E) {b : Nat} {bx bx' : Box} (hb : E.S.get b = some bx)
    (arr : Array Value) (T : TypeId) (hl : bx'.cs.length ≤ arr.size) (hver : bx.ver < bx'.ver) (he : bx'.esz = bx.esz)
    (hv : WL E bx'.cs (arr.toList.take bx'.cs.length)) :
    Step E { E with w := E.w.alloc (.cells arr T), sg := upd E.sg b (some E.w.heap.size), z := upd E.z b arr.size, S := E.S.put b bx' } := by
  have hext : Ext E { E with w := E.w.alloc (.cells arr T), sg := upd E.sg b (some E.w.heap.size), z := upd E.z b arr.size, S := E.S.put b bx' } := by
    refine ⟨rfl, rfl, rfl, by simp, fun j hj hm => heap_alloc_lt _ _ hj, fun _ h => h, fun j hj => .inl hj, fun j hm => ?_, Nat.le_refl _, fun c cx hc hx => ?_⟩
    · rcases hm with ⟨c, cx, hc, hj⟩ | ⟨d, cs, hd, rfl⟩
      · simp only [Store.get_put] at hc
        by_cases e : b = c
        · subst e; simp [upd] at hj; exact .inl (by omega)
        · rw [if_neg e] at hc
          have hj' : E.sg c = some j := by simpa [upd, Ne.symm e] using hj
          exact .inr (.inl ⟨c, cx, hc, hj'⟩)
      · exact .inr (.inr ⟨d, cs, hd, rfl⟩)
    · simp only [Store.get_put] at hx
      by_cases e : b = c
      · subst e; simp at hx; subst hx
        exact ⟨bx, hb, fun e => by omega, by omega⟩
      · rw [if_neg e] at hx
        exact ⟨cx, hx, fun _ => ⟨by simp [upd, Ne.symm e], rfl, by simp [upd, Ne.symm e]⟩, Nat.le_refl _⟩
  have hle := hext.le h
  refine ⟨hext, ⟨fun j hj => ?_, fun c cx hc => ?_, fun c c' cx cx' j hc hc' hj hj' => ?_, fun d cs hd => ?_, h.linj, fun c cx d cs hc hd => ?_⟩, fun _ cs h => ⟨⟨cs, h⟩, rfl⟩⟩
  · obtain ⟨h1, h2⟩ := h.gam j hj
    refine ⟨Nat.lt_of_lt_of_le h1 hext.size, fun hm => ?_⟩
    rcases hext.mod j hm with e | e
    · omega
    · exact h2 e
  · simp only [Store.get_put] at hc
    by_cases e : b = c
    · subst e; simp at hc; subst hc
      obtain ⟨g1, g2, g3, g4⟩ := h.box b bx hb
      refine ⟨g1, by rw [he]; exact g2, fun j hj => ?_, fun hn => by simp [upd] at hn⟩
      simp [upd] at hj
      subst hj
      exact ⟨arr, T, heap_alloc_new _ _, by simp [upd], by simpa [upd] using hl, WL.mono hle _ _ hv⟩
    · rw [if_neg e] at hc
      obtain ⟨g1, g2, g3, g4⟩ := h.box c cx hc
      have hz : upd E.z b arr.size c = E.z c := by simp [upd, Ne.symm e]
      have hsg : upd E.sg b (some E.w.heap.size) c = E.sg c := by simp [upd, Ne.symm e]
      refine ⟨g1, g2, fun j hj => ?_, fun hn => ?_⟩
      · simp only [hsg] at hj; simp only [hz]
        exact (g3 j hj).mono hle (heap_alloc_lt _ _ (g3 j hj).lt)
      · simp only [hsg] at hn; simp only [hz]; exact g4 hn
  · simp only [Store.get_put] at hc hc'
    simp only [upd] at hj hj'
    by_cases e : b = c <;> by_cases e' : b = c'
    · omega
    · exfalso
      rw [if_neg e'] at hc'
      rw [if_pos e.symm] at hj
      rw [if_neg (Ne.symm e')] at hj'
      have := ((h.box c' cx' hc').2.2.1 j hj').lt
      simp at hj; omega
    · exfalso
      rw [if_neg e] at hc
      rw [if_pos e'.symm] at hj'
      rw [if_neg (Ne.symm e)] at hj
      have := ((h.box c cx hc).2.2.1 j hj).lt
      simp at hj'; omega
    · rw [if_neg e] at hc; rw [if_neg e'] at hc'
      rw [if_neg (Ne.symm e)] at hj; rw [if_neg (Ne.symm e')] at hj'
      exact h.inj c c' cx cx' j hc hc' hj hj'
  · exact (h.loc d cs hd).mono hle (heap_alloc_lt _ _ (h.loc d cs hd).lt)
  · simp only [Store.get_put] at hc
    simp only [upd]
    by_cases e : b = c
    · rw [if_pos e.symm]
      intro hh
      have := (h.loc d cs hd).lt
      simp at hh; omega
    · rw [if_neg e] at hc; rw [if_neg (Ne.symm e)]
      exact h.apart c cx d cs hc hd

/-- A local's content turns. -/
theorem Step.writeLoc {E : Env} (h : Inv E) {d : Nat} {cs cs' : List PV} (hd : look E.L d = some cs)
    {arr : Array Value} {T : TypeId} (hsz : arr.size = cs.length) (hl : cs'.length = cs.length)
    (hv : WL E cs' arr.toList) :
    Step E { E with w := wput E.w (E.l d) (.cells arr T (0, 0)), L := put E.L d cs' } := by
  have hlook : ∀ d' cs1, look (put E.L d cs') d' = some cs1 → ∃ cs2, look E.L d' = some cs2 := by
    intro d' cs1 h1
    rw [look_put] at h1
    by_cases e : d = d'
    · subst e; exact ⟨cs, hd⟩
    · rw [if_neg e] at h1; exact ⟨cs1, h1⟩
  have hmod : ∀ j, Mod { E with w := wput E.w (E.l d) (.cells arr T (0, 0)), L := put E.L d cs' } j → Mod E j := by
    intro j hm
    rcases hm with ⟨c, cx, hc, hj⟩ | ⟨d', cs1, hd', rfl⟩
    · exact .inl ⟨c, cx, hc, hj⟩
    · obtain ⟨cs2, h2⟩ := hlook d' cs1 hd'; exact .inr ⟨d', cs2, h2, rfl⟩
  have hext : Ext E { E with w := wput E.w (E.l d) (.cells arr T (0, 0)), L := put E.L d cs' } :=
    ⟨rfl, rfl, rfl, by simp [size_wput], fun j _ hm => heap_wput_ne _ _ _ (fun e => hm (.inr ⟨d, cs, hd, e.symm⟩)), fun _ h => h, fun j hj => .inl hj, fun j hm => .inr (hmod j hm), Nat.le_refl _,
      fun c cx _ hx => ⟨cx, hx, fun _ => ⟨rfl, rfl, rfl⟩, Nat.le_refl _⟩⟩
  have hle := hext.le h
  have hklt := (h.loc d cs hd).lt
  refine ⟨hext, ⟨fun j hj => ?_, fun c cx hc => ?_, h.inj, fun d' cs1 hd' => ?_, fun d1 d2 c1 c2 h1 h2 => ?_, fun c cx d' cs1 hc hd' => ?_⟩, fun d' cs1 hd' => ⟨?_, rfl⟩⟩
  · obtain ⟨h1, h2⟩ := h.gam j hj
    exact ⟨by simpa [size_wput] using h1, fun hm => h2 (hmod j hm)⟩
  · obtain ⟨g1, g2, g3, g4⟩ := h.box c cx hc
    refine ⟨g1, g2, fun j hj => ?_, g4⟩
    have hne : j ≠ E.l d := fun e => h.apart c cx d cs hc hd (e ▸ hj)
    exact (g3 j hj).mono hle (heap_wput_ne _ _ _ hne)
  · by_cases e : d = d'
    · subst e
      simp only [look_put, if_true] at hd'
      obtain rfl := Option.some.inj hd'
      refine ⟨arr, T, heap_wput_same _ _ _ hklt, by omega, Nat.le_refl _, ?_⟩
      rw [List.take_of_length_le (by simp; omega)]
      exact WL.mono hle _ _ hv
    · simp only [look_put, if_neg e] at hd'
      have hne : E.l d' ≠ E.l d := fun e' => e (h.linj d d' cs cs1 hd hd' e'.symm)
      exact (h.loc d' cs1 hd').mono hle (heap_wput_ne _ _ _ hne)
  · obtain ⟨a1, ha1⟩ := hlook d1 c1 h1
    obtain ⟨a2, ha2⟩ := hlook d2 c2 h2
    exact h.linj d1 d2 a1 a2 ha1 ha2
  · obtain ⟨a1, ha1⟩ := hlook d' cs1 hd'
    exact h.apart c cx d' a1 hc ha1
  · simp only [look_put]
    by_cases e : d = d'
    · exact ⟨cs', by rw [if_pos e]⟩
    · exact ⟨cs1, by rw [if_neg e]; exact hd'⟩

/-- A new local: the elder one of this name is gone. -/
theorem Ext.newLoc {E : Env} (h : Inv E) (d : Nat) (cs : List PV) (arr : Array Value) (T : TypeId) (hl : arr.size = cs.length) (hv : WL E cs arr.toList) :
    let E' := { E with w := E.w.alloc (.cells arr T), L := put E.L d cs, l := upd E.l d E.w.heap.size }
    Ext E E' ∧ Inv E' ∧ look E'.L d = some cs ∧ E'.l d = E.w.heap.size ∧ ∀ p v, V E p v → (∀ off, p ≠ .loc d off) → V E' p v := by
  intro E'
  have hlook : ∀ d' cs1, d ≠ d' → look (put E.L d cs) d' = some cs1 → look E.L d' = some cs1 := by
    intro d' cs1 e h1
    rwa [look_put, if_neg e] at h1
  have hext : Ext E E' := by
    refine ⟨rfl, rfl, rfl, by simp [E'], fun j hj hm => heap_alloc_lt _ _ hj, fun _ h => h, fun j hj => .inl hj, fun j hm => ?_, Nat.le_refl _,
      fun c cx _ hx => ⟨cx, hx, fun _ => ⟨rfl, rfl, rfl⟩, Nat.le_refl _⟩⟩
    rcases hm with ⟨c, cx, hc, hj⟩ | ⟨d', cs1, hd', rfl⟩
    · exact .inr (.inl ⟨c, cx, hc, hj⟩)
    · by_cases e : d = d'
      · subst e; exact .inl (by simp [E', upd])
      · exact .inr (.inr ⟨d', cs1, hlook d' cs1 e hd', by simp [E', upd, Ne.symm e]⟩)
  have hle := hext.le h
  have hnew : look E'.L d = some cs := by simp [E', look_put]
  refine ⟨hext, ⟨fun j hj => ?_, fun c cx hc => ?_, h.inj, fun d' cs1 hd' => ?_, fun d1 d2 c1 c2 h1 h2 e12 => ?_, fun c cx d' cs1 hc hd' => ?_⟩, hnew, by simp [E', upd], fun p v hv hp => ?_⟩
  · obtain ⟨h1, h2⟩ := h.gam j hj
    refine ⟨Nat.lt_of_lt_of_le h1 hext.size, fun hm => ?_⟩
    rcases hext.mod j hm with e | e
    · omega
    · exact h2 e
  · obtain ⟨g1, g2, g3, g4⟩ := h.box c cx hc
    exact ⟨g1, g2, fun j hj => (g3 j hj).mono hle (heap_alloc_lt _ _ (g3 j hj).lt), g4⟩
  · by_cases e : d = d'
    · subst e
      rw [hnew] at hd'
      obtain rfl := Option.some.inj hd'
      refine ⟨arr, T, by simp only [E', upd, if_true]; exact heap_alloc_new _ _, hl, Nat.le_refl _, ?_⟩
      rw [List.take_of_length_le (by simp; omega)]
      exact WL.mono hle _ _ hv
    · have hd2 := hlook d' cs1 e hd'
      have : E'.l d' = E.l d' := by simp [E', upd, Ne.symm e]
      rw [this]
      exact (h.loc d' cs1 hd2).mono hle (heap_alloc_lt _ _ (h.loc d' cs1 hd2).lt)
  · have q : ∀ d' c', look E'.L d' = some c' → d ≠ d' → E'.l d' = E.l d' ∧ E.l d' < E.w.heap.size := by
      intro d' c' hd' e
      exact ⟨by simp [E', upd, Ne.symm e], (h.loc d' c' (hlook d' c' e hd')).lt⟩
    have q0 : E'.l d = E.w.heap.size := by simp [E', upd]
    by_cases e1 : d = d1 <;> by_cases e2 : d = d2
    · omega
    · subst e1; obtain ⟨a, b⟩ := q d2 c2 h2 e2; omega
    · subst e2; obtain ⟨a, b⟩ := q d1 c1 h1 e1; omega
    · obtain ⟨a1, b1⟩ := q d1 c1 h1 e1
      obtain ⟨a2, b2⟩ := q d2 c2 h2 e2
      exact h.linj d1 d2 c1 c2 (hlook d1 c1 e1 h1) (hlook d2 c2 e2 h2) (by omega)
  · by_cases e : d = d'
    · subst e
      intro hk
      have := ((h.box c cx hc).2.2.1 _ hk).lt
      simp [E', upd] at this
    · have : E'.l d' = E.l d' := by simp [E', upd, Ne.symm e]
      rw [this]
      exact h.apart c cx d' cs1 hc (hlook d' cs1 e hd')
  · cases p with
    | v p => exact W.mono hle _ _ hv
    | loc d1 off =>
      obtain ⟨c1, h1, h2⟩ := hv
      have e : d ≠ d1 := fun e => hp off (by rw [e])
      exact ⟨c1, by simp [E', look_put, if_neg e, h1], by simp [E', upd, Ne.symm e, h2]⟩
end Go.Pvm
