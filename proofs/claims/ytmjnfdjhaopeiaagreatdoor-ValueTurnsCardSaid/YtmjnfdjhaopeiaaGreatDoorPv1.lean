/-
  A part of the proof: Pv1.
-/
import Derived.Calls
import Derived.Below
import Derived.LoopN
import Derived.Laws.Append
import Derived.Orders
/-
  PVM, part 1: the pure values and what they say of a world.
-/
namespace Go.Pvm
open Go

/-- Pure values: what a Go value comes to, its slices' contents within. -/
inductive PV where
  | any
  | s (v : Value)
  | agg (cs : List PV)
  | tup (vs : List PV)
  | sl (full : Bool) (n : Nat) (cs : List PV)
  | cel (cs : List PV) (off : Nat)
  | ptr (b ver off : Nat)
  | bsl (b ver off n : Nat)
  | fn (f : Fn) (first cap : List PV)
  | iface (t : TypeId) (v : PV)

/-- A box: memory that may be written. -/
structure Box where
  ver : Nat
  esz : Nat
  cs : List PV

structure Store where
  bs : List (Nat × Box)
  next : Nat

def look {α : Type} (l : List (Nat × α)) (k : Nat) : Option α :=
  match l with
  | [] => none
  | (j, x) :: r => if j = k then some x else look r k

def Store.get (S : Store) (b : Nat) : Option Box := look S.bs b

mutual
/-- What a pure value says: of a value, in a world, where the blocks in G are never written again. -/
def Vp (w : World) (G : Nat → Prop) : PV → Value → Prop
  | .s x, v => v = x
  | .agg cs, v => ∃ vs : List Value, v = .agg vs.toArray ∧ VpL w G cs vs
  | .tup cs, v => ∃ vs : List Value, v = .tuple vs.toArray ∧ VpL w G cs vs
  | .sl full n cs, v => ∃ A c, v = .slice A n c ∧ n ≤ c ∧ (full = true → c = n) ∧ (cs = [] ∨ ∃ k o, A = some ⟨k, o, none⟩ ∧ G k ∧ VpC w G cs k o)
  | .cel cs off, v => ∃ k o, v = .pointer (some ⟨k, o + off, none⟩) ∧ G k ∧ VpC w G cs k o
  | .fn f a b, v => ∃ x y : List Value, v = .func f x.toArray y.toArray ∧ VpL w G a x ∧ VpL w G b y
  | .iface t p, v => ∃ u, v = .iface t u ∧ Vp w G p u
  | .any, _ => False
  | .ptr _ _ _, _ => False
  | .bsl _ _ _ _, _ => False
def VpL (w : World) (G : Nat → Prop) : List PV → List Value → Prop
  | [], vs => vs = []
  | c :: cs, vs => ∃ v r, vs = v :: r ∧ Vp w G c v ∧ VpL w G cs r
def VpC (w : World) (G : Nat → Prop) : List PV → Nat → Nat → Prop
  | [], _, _ => True
  | c :: cs, k, o => (∃ u, w.cell? ⟨k, o, none⟩ = some u ∧ Vp w G c u) ∧ VpC w G cs k (o + 1)
end

/-- The ghosts: which blocks are never written again, where the boxes lie, how many cells their blocks have; the locals. -/
structure Env where
  w : World
  G : Nat → Prop
  sg : Nat → Option Nat
  z : Nat → Nat
  S : Store
  L : List (Nat × List PV)
  l : Nat → Nat

mutual
/-- Likewise, with boxes. -/
def W (E : Env) : PV → Value → Prop
  | .any, _ => True
  | .s x, v => v = x
  | .agg cs, v => ∃ vs : List Value, v = .agg vs.toArray ∧ WL E cs vs
  | .tup cs, v => ∃ vs : List Value, v = .tuple vs.toArray ∧ WL E cs vs
  | .sl full n cs, v => Vp E.w E.G (.sl full n cs) v
  | .cel cs off, v => Vp E.w E.G (.cel cs off) v
  | .fn f a b, v => ∃ x y : List Value, v = .func f x.toArray y.toArray ∧ WL E a x ∧ WL E b y
  | .iface t p, v => ∃ u, v = .iface t u ∧ W E p u
  | .ptr b ver off, v => (b < E.S.next ∧ v.oneCell' = true) ∧ ∀ bx, E.S.get b = some bx → ver ≤ bx.ver ∧ (bx.ver = ver → ∃ k, E.sg b = some k ∧ v = .pointer (some ⟨k, off, none⟩))
  | .bsl b ver off n, v => (b < E.S.next ∧ ∃ A c, v = .slice A n c) ∧ ∀ bx, E.S.get b = some bx → ver ≤ bx.ver ∧ (bx.ver = ver →
      ∃ A c, v = .slice A n c ∧ n ≤ c ∧ off + c * bx.esz ≤ E.z b ∧ ∀ k, E.sg b = some k → A = some ⟨k, off, none⟩)
def WL (E : Env) : List PV → List Value → Prop
  | [], vs => vs = []
  | c :: cs, vs => ∃ v r, vs = v :: r ∧ W E c v ∧ WL E cs r
end

/-- What a register holds: a value, or a pointer to a local. -/
inductive RV where
  | v (p : PV)
  | loc (d off : Nat)

def V (E : Env) : RV → Value → Prop
  | .loc d off, v => ∃ cs, look E.L d = some cs ∧ v = .pointer (some ⟨E.l d, off, none⟩)
  | .v p, v => W E p v

theorem VpL_iff {w : World} {G : Nat → Prop} : ∀ {cs : List PV} {vs : List Value}, VpL w G cs vs ↔ cs.length = vs.length ∧ ∀ (i : Nat) (p : PV) (v : Value), cs[i]? = some p → vs[i]? = some v → Vp w G p v
  | [], vs => by
    simp only [VpL, List.length_nil]
    constructor
    · rintro rfl; simp
    · rintro ⟨h, _⟩; exact List.eq_nil_of_length_eq_zero h.symm
  | c :: cs, vs => by
    simp only [VpL]
    constructor
    · rintro ⟨v, r, rfl, h, hr⟩
      obtain ⟨h1, h2⟩ := VpL_iff.1 hr
      refine ⟨by simp [h1], ?_⟩
      intro i p u hp hu
      cases i with
      | zero => simp at hp hu; subst hp hu; exact h
      | succ i => exact h2 i p u (by simpa using hp) (by simpa using hu)
    · rintro ⟨h1, h2⟩
      cases vs with
      | nil => simp at h1
      | cons v r => exact ⟨v, r, rfl, h2 0 c v rfl rfl, VpL_iff.2 ⟨by simpa using h1, fun i p u hp hu => h2 (i + 1) p u (by simpa using hp) (by simpa using hu)⟩⟩

theorem WL_iff {E : Env} : ∀ {cs : List PV} {vs : List Value}, WL E cs vs ↔ cs.length = vs.length ∧ ∀ (i : Nat) (p : PV) (v : Value), cs[i]? = some p → vs[i]? = some v → W E p v
  | [], vs => by
    simp only [WL, List.length_nil]
    constructor
    · rintro rfl; simp
    · rintro ⟨h, _⟩; exact List.eq_nil_of_length_eq_zero h.symm
  | c :: cs, vs => by
    simp only [WL]
    constructor
    · rintro ⟨v, r, rfl, h, hr⟩
      obtain ⟨h1, h2⟩ := WL_iff.1 hr
      refine ⟨by simp [h1], ?_⟩
      intro i p u hp hu
      cases i with
      | zero => simp at hp hu; subst hp hu; exact h
      | succ i => exact h2 i p u (by simpa using hp) (by simpa using hu)
    · rintro ⟨h1, h2⟩
      cases vs with
      | nil => simp at h1
      | cons v r => exact ⟨v, r, rfl, h2 0 c v rfl rfl, WL_iff.2 ⟨by simpa using h1, fun i p u hp hu => h2 (i + 1) p u (by simpa using hp) (by simpa using hu)⟩⟩

theorem VpC_iff {w : World} {G : Nat → Prop} : ∀ {cs : List PV} {k o : Nat}, VpC w G cs k o ↔ ∀ (i : Nat) (p : PV), cs[i]? = some p → ∃ u, w.cell? ⟨k, o + i, none⟩ = some u ∧ Vp w G p u
  | [], k, o => by simp [VpC]
  | c :: cs, k, o => by
    simp only [VpC]
    constructor
    · rintro ⟨h, hr⟩ i p hp
      cases i with
      | zero => simp at hp; subst hp; exact h
      | succ i =>
        have := VpC_iff.1 hr i p (by simpa using hp)
        rwa [show o + (i + 1) = o + 1 + i by omega]
    · intro h
      refine ⟨h 0 c rfl, VpC_iff.2 fun i p hp => ?_⟩
      have := h (i + 1) p (by simpa using hp)
      rwa [show o + 1 + i = o + (i + 1) by omega]

/-! ### from world to world -/

theorem cell?_of_block {w w' : World} {k o : Nat} (h : w'.heap[k]? = w.heap[k]?) : w'.cell? ⟨k, o, none⟩ = w.cell? ⟨k, o, none⟩ := by
  simp only [World.cell?, h]

mutual
theorem Vp.mono {w w' : World} {G G' : Nat → Prop} (h : ∀ k, G k → G' k ∧ w'.heap[k]? = w.heap[k]?) : ∀ (p : PV) (v : Value), Vp w G p v → Vp w' G' p v
  | .s x, v, hv => hv
  | .agg cs, v, ⟨vs, e, hv⟩ => ⟨vs, e, VpL.mono h cs vs hv⟩
  | .tup cs, v, ⟨vs, e, hv⟩ => ⟨vs, e, VpL.mono h cs vs hv⟩
  | .sl full n cs, v, ⟨A, c, e, h1, h2, h3⟩ => by
    refine ⟨A, c, e, h1, h2, ?_⟩
    rcases h3 with h3 | ⟨k, o, ha, hg, hc⟩
    · exact .inl h3
    · exact .inr ⟨k, o, ha, (h k hg).1, VpC.mono h cs k o hg hc⟩
  | .cel cs off, v, ⟨k, o, e, hg, hc⟩ => ⟨k, o, e, (h k hg).1, VpC.mono h cs k o hg hc⟩
  | .fn f a b, v, ⟨x, y, e, hx, hy⟩ => ⟨x, y, e, VpL.mono h a x hx, VpL.mono h b y hy⟩
  | .iface t p, v, ⟨u, e, hu⟩ => ⟨u, e, Vp.mono h p u hu⟩
  | .any, _, hv => hv.elim
  | .ptr _ _ _, _, hv => hv.elim
  | .bsl _ _ _ _, _, hv => hv.elim
theorem VpL.mono {w w' : World} {G G' : Nat → Prop} (h : ∀ k, G k → G' k ∧ w'.heap[k]? = w.heap[k]?) : ∀ (cs : List PV) (vs : List Value), VpL w G cs vs → VpL w' G' cs vs
  | [], _, hv => hv
  | c :: cs, _, ⟨v, r, e, hv, hr⟩ => ⟨v, r, e, Vp.mono h c v hv, VpL.mono h cs r hr⟩
theorem VpC.mono {w w' : World} {G G' : Nat → Prop} (h : ∀ k, G k → G' k ∧ w'.heap[k]? = w.heap[k]?) : ∀ (cs : List PV) (k o : Nat), G k → VpC w G cs k o → VpC w' G' cs k o
  | [], _, _, _, _ => trivial
  | c :: cs, k, o, hg, ⟨⟨u, hu, hv⟩, hr⟩ => ⟨⟨u, (cell?_of_block (h k hg).2).trans hu, Vp.mono h c u hv⟩, VpC.mono h cs k (o + 1) hg hr⟩
end

/-- What has to stay for values to stay. -/
structure Le (E E' : Env) : Prop where
  g : ∀ k, E.G k → E'.G k ∧ E'.w.heap[k]? = E.w.heap[k]?
  next : E.S.next ≤ E'.S.next
  s : ∀ b bx', b < E.S.next → E'.S.get b = some bx' → ∃ bx, E.S.get b = some bx ∧
    (bx'.ver = bx.ver → E'.sg b = E.sg b ∧ bx'.esz = bx.esz ∧ E'.z b = E.z b) ∧ bx.ver ≤ bx'.ver

theorem Le.refl (E : Env) : Le E E := ⟨fun _ h => ⟨h, rfl⟩, Nat.le_refl _, fun _ bx' _ h => ⟨bx', h, fun _ => ⟨rfl, rfl, rfl⟩, Nat.le_refl _⟩⟩

mutual
theorem W.mono {E E' : Env} (h : Le E E') : ∀ (p : PV) (v : Value), W E p v → W E' p v
  | .any, _, _ => trivial
  | .s _, _, hv => hv
  | .agg cs, _, ⟨vs, e, hv⟩ => ⟨vs, e, WL.mono h cs vs hv⟩
  | .tup cs, _, ⟨vs, e, hv⟩ => ⟨vs, e, WL.mono h cs vs hv⟩
  | .sl full n cs, v, hv => Vp.mono h.g (.sl full n cs) v hv
  | .cel cs off, v, hv => Vp.mono h.g (.cel cs off) v hv
  | .fn _ a b, _, ⟨x, y, e, hx, hy⟩ => ⟨x, y, e, WL.mono h a x hx, WL.mono h b y hy⟩
  | .iface _ p, _, ⟨u, e, hu⟩ => ⟨u, e, W.mono h p u hu⟩
  | .ptr b ver off, v, ⟨⟨hb, ho⟩, hv⟩ => by
    refine ⟨⟨Nat.lt_of_lt_of_le hb h.next, ho⟩, fun bx' hx' => ?_⟩
    obtain ⟨bx, hx, hs, hle⟩ := h.s b bx' hb hx'
    obtain ⟨h1, h2⟩ := hv bx hx
    refine ⟨Nat.le_trans h1 hle, fun e => ?_⟩
    have e1 : bx.ver = ver := by omega
    rw [(hs (by omega)).1]; exact h2 e1
  | .bsl b ver off n, v, ⟨⟨hb, ho⟩, hv⟩ => by
    refine ⟨⟨Nat.lt_of_lt_of_le hb h.next, ho⟩, fun bx' hx' => ?_⟩
    obtain ⟨bx, hx, hs, hle⟩ := h.s b bx' hb hx'
    obtain ⟨h1, h2⟩ := hv bx hx
    refine ⟨Nat.le_trans h1 hle, fun e => ?_⟩
    have e1 : bx.ver = ver := by omega
    obtain ⟨s1, s2, s3⟩ := hs (by omega)
    rw [s1, s2, s3]; exact h2 e1
theorem WL.mono {E E' : Env} (h : Le E E') : ∀ (cs : List PV) (vs : List Value), WL E cs vs → WL E' cs vs
  | [], _, hv => hv
  | c :: cs, _, ⟨v, r, e, hv, hr⟩ => ⟨v, r, e, W.mono h c v hv, WL.mono h cs r hr⟩
end

mutual
/-- A value without boxes and locals. -/
def pure? : PV → Bool
  | .s _ => true
  | .sl _ _ _ => true
  | .cel _ _ => true
  | .agg cs => pureL? cs
  | .tup cs => pureL? cs
  | .fn _ a b => pureL? a && pureL? b
  | .iface _ p => pure? p
  | _ => false
def pureL? : List PV → Bool
  | [] => true
  | c :: cs => pure? c && pureL? cs
end

mutual
theorem Vp_of_W {E : Env} : ∀ (p : PV) (v : Value), pure? p = true → W E p v → Vp E.w E.G p v
  | .s _, _, _, hv => hv
  | .agg cs, _, hp, ⟨vs, e, hv⟩ => ⟨vs, e, VpL_of_WL cs vs hp hv⟩
  | .tup cs, _, hp, ⟨vs, e, hv⟩ => ⟨vs, e, VpL_of_WL cs vs hp hv⟩
  | .sl _ _ _, _, _, hv => hv
  | .cel _ _, _, _, hv => hv
  | .fn _ a b, _, hp, ⟨x, y, e, hx, hy⟩ => by
    simp only [pure?, Bool.and_eq_true] at hp
    exact ⟨x, y, e, VpL_of_WL a x hp.1 hx, VpL_of_WL b y hp.2 hy⟩
  | .iface _ p, _, hp, ⟨u, e, hu⟩ => ⟨u, e, Vp_of_W p u hp hu⟩
  | .any, _, hp, _ => by simp [pure?] at hp
  | .ptr _ _ _, _, hp, _ => by simp [pure?] at hp
  | .bsl _ _ _ _, _, hp, _ => by simp [pure?] at hp
theorem VpL_of_WL {E : Env} : ∀ (cs : List PV) (vs : List Value), pureL? cs = true → WL E cs vs → VpL E.w E.G cs vs
  | [], _, _, hv => hv
  | c :: cs, _, hp, ⟨v, r, e, hv, hr⟩ => by
    simp only [pureL?, Bool.and_eq_true] at hp
    exact ⟨v, r, e, Vp_of_W c v hp.1 hv, VpL_of_WL cs r hp.2 hr⟩
end

mutual
theorem W_of_Vp {E : Env} : ∀ (p : PV) (v : Value), Vp E.w E.G p v → W E p v
  | .s _, _, hv => hv
  | .agg cs, _, ⟨vs, e, hv⟩ => ⟨vs, e, WL_of_VpL cs vs hv⟩
  | .tup cs, _, ⟨vs, e, hv⟩ => ⟨vs, e, WL_of_VpL cs vs hv⟩
  | .sl _ _ _, _, hv => hv
  | .cel _ _, _, hv => hv
  | .fn _ a b, _, ⟨x, y, e, hx, hy⟩ => ⟨x, y, e, WL_of_VpL a x hx, WL_of_VpL b y hy⟩
  | .iface _ p, _, ⟨u, e, hu⟩ => ⟨u, e, W_of_Vp p u hu⟩
  | .any, _, hv => hv.elim
  | .ptr _ _ _, _, hv => hv.elim
  | .bsl _ _ _ _, _, hv => hv.elim
theorem WL_of_VpL {E : Env} : ∀ (cs : List PV) (vs : List Value), VpL E.w E.G cs vs → WL E cs vs
  | [], _, hv => hv
  | c :: cs, _, ⟨v, r, e, hv, hr⟩ => ⟨v, r, e, W_of_Vp c v hv, WL_of_VpL cs r hr⟩
end

/-! ### the invariants -/

/-- A block is a row of cells that holds these (and more, perhaps). -/
structure Holds (E : Env) (k : Nat) (cs : List PV) (n : Nat) : Prop where
  ex : ∃ arr T, E.w.heap[k]? = some (.cells arr T (0, 0)) ∧ arr.size = n ∧ cs.length ≤ n ∧ WL E cs (arr.toList.take cs.length)

/-- Which blocks may be written. -/
def Mod (E : Env) (k : Nat) : Prop := (∃ b bx, E.S.get b = some bx ∧ E.sg b = some k) ∨ ∃ d cs, look E.L d = some cs ∧ E.l d = k

structure Inv (E : Env) : Prop where
  gam : ∀ k, E.G k → k < E.w.heap.size ∧ ¬ Mod E k
  box : ∀ b bx, E.S.get b = some bx → b < E.S.next ∧ 0 < bx.esz ∧ (∀ k, E.sg b = some k → Holds E k bx.cs (E.z b)) ∧ (E.sg b = none → bx.cs = [] ∧ E.z b = 0)
  inj : ∀ b b' bx bx' k, E.S.get b = some bx → E.S.get b' = some bx' → E.sg b = some k → E.sg b' = some k → b = b'
  loc : ∀ d cs, look E.L d = some cs → Holds E (E.l d) cs cs.length
  linj : ∀ d d' cs cs', look E.L d = some cs → look E.L d' = some cs' → E.l d = E.l d' → d = d'
  apart : ∀ b bx d cs, E.S.get b = some bx → look E.L d = some cs → E.sg b ≠ some (E.l d)

/-- From one state to a later one. -/
structure Ext (E E' : Env) : Prop where
  os : E'.w.os = E.w.os
  tape : E'.w.tape = E.w.tape
  output : E'.w.output = E.w.output
  size : E.w.heap.size ≤ E'.w.heap.size
  keep : ∀ k, k < E.w.heap.size → ¬ Mod E k → E'.w.heap[k]? = E.w.heap[k]?
  gle : ∀ k, E.G k → E'.G k
  gam : ∀ k, E'.G k → E.G k ∨ E.w.heap.size ≤ k ∨ Mod E k
  mod : ∀ k, Mod E' k → E.w.heap.size ≤ k ∨ Mod E k
  next : E.S.next ≤ E'.S.next
  s : ∀ b bx', b < E.S.next → E'.S.get b = some bx' → ∃ bx, E.S.get b = some bx ∧
    (bx'.ver = bx.ver → E'.sg b = E.sg b ∧ bx'.esz = bx.esz ∧ E'.z b = E.z b) ∧ bx.ver ≤ bx'.ver

theorem Ext.refl (E : Env) : Ext E E :=
  ⟨rfl, rfl, rfl, Nat.le_refl _, fun _ _ _ => rfl, fun _ h => h, fun _ h => .inl h, fun _ h => .inr h, Nat.le_refl _,
    fun _ bx' _ h => ⟨bx', h, fun _ => ⟨rfl, rfl, rfl⟩, Nat.le_refl _⟩⟩

theorem Ext.trans {A B C : Env} (h : Ext A B) (k : Ext B C) : Ext A C where
  os := k.os.trans h.os
  tape := k.tape.trans h.tape
  output := k.output.trans h.output
  size := Nat.le_trans h.size k.size
  keep i hi hm := (k.keep i (Nat.lt_of_lt_of_le hi h.size) fun hb => (h.mod i hb).elim (fun e => by omega) hm).trans (h.keep i hi hm)
  gle i hg := k.gle i (h.gle i hg)
  gam i hg := by
    rcases k.gam i hg with a | a | a
    · exact h.gam i a
    · exact .inr (.inl (Nat.le_trans h.size a))
    · exact .inr (h.mod i a)
  mod i hm := by
    rcases k.mod i hm with a | a
    · exact .inl (Nat.le_trans h.size a)
    · exact h.mod i a
  next := Nat.le_trans h.next k.next
  s b bx'' hb hx := by
    obtain ⟨bx', h1, h2, h3⟩ := k.s b bx'' (Nat.lt_of_lt_of_le hb h.next) hx
    obtain ⟨bx, g1, g2, g3⟩ := h.s b bx' hb h1
    refine ⟨bx, g1, fun e => ?_, Nat.le_trans g3 h3⟩
    obtain ⟨a1, a2, a3⟩ := h2 (by omega)
    obtain ⟨c1, c2, c3⟩ := g2 (by omega)
    exact ⟨a1.trans c1, a2.trans c2, a3.trans c3⟩

theorem Ext.le {E E' : Env} (h : Ext E E') (hi : Inv E) : Le E E' where
  g k hk := ⟨h.gle k hk, h.keep k (hi.gam k hk).1 (hi.gam k hk).2⟩
  next := h.next
  s := h.s

theorem Ext.below {E E' : Env} (h : Ext E E') (hm : ∀ k, ¬ Mod E k) : Go.RowKit.Below E.w.heap.size E.w E'.w :=
  ⟨h.os, h.tape, h.output, h.size, fun k hk => h.keep k hk (hm k)⟩

end Go.Pvm
