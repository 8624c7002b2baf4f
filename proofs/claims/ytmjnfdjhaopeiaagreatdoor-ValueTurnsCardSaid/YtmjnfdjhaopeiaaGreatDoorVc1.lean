/-
  A part of the proof: Vc1.
-/
import Derived.Test.YtmjnfdjhaopeiaaGreatDoorPx3
/-
  What has to be shown of a run of the pure interpreter, computed: truths that are not known part it, values that are not known are told by their shapes.
-/
namespace Go.Pvm
open Go

/-- A parting by a truth. -/
def br (t : Bool) (A B : Prop) : Prop := match t with | true => A | false => B
theorem br_intro {t : Bool} {A B : Prop} (h : t = true → A) (k : t = false → B) : br t A B := by
  cases t with
  | true => exact h rfl
  | false => exact k rfl
theorem br_elim {t : Bool} {A B : Prop} (h : br t A B) : (t = true ∧ A) ∨ (t = false ∧ B) := by
  cases t with
  | true => exact .inl ⟨rfl, h⟩
  | false => exact .inr ⟨rfl, h⟩

/-- What is known of truths in registers. -/
abbrev Fx := List (Nat × Bool)

/-- Shapes of one cell, of a value, of what a call yields. -/
inductive Cl where
  | int (k : IntKind)
  | bool
  | str
  | sl
  | pv
def Cl.ex : Cl → (PV → Prop) → Prop
  | .int k, K => ∃ z : Int, K (.s (.int k z))
  | .bool, K => ∃ b : Bool, K (.s (.bool b))
  | .str, K => ∃ s : ByteArray, K (.s (.string s))
  | .sl, K => ∃ (u : Bool) (n : Nat) (cs : List PV), K (.sl u n cs)
  | .pv, K => ∃ p : PV, K p
def exL : List Cl → (List PV → Prop) → Prop
  | [], K => K []
  | c :: r, K => c.ex fun p => exL r fun ps => K (p :: ps)
inductive Sh where
  | one (c : Cl)
  | agg (l : List Cl)
def Sh.ex : Sh → (PV → Prop) → Prop
  | .one c, K => c.ex K
  | .agg l, K => exL l fun cs => K (.agg cs)
def exS : List Sh → (List PV → Prop) → Prop
  | [], K => K []
  | c :: r, K => c.ex fun p => exS r fun ps => K (p :: ps)
inductive Ty where
  | sh (s : Sh)
  | tup (l : List Sh)
def Ty.ex : Ty → (PV → Prop) → Prop
  | .sh s, K => s.ex K
  | .tup l, K => exS l fun ps => K (.tup ps)

theorem Cl.ex_elim : ∀ {c : Cl} {K : PV → Prop}, c.ex K → ∃ p, K p
  | .int _, _, ⟨_, h⟩ => ⟨_, h⟩
  | .bool, _, ⟨_, h⟩ => ⟨_, h⟩
  | .str, _, ⟨_, h⟩ => ⟨_, h⟩
  | .sl, _, ⟨_, _, _, h⟩ => ⟨_, h⟩
  | .pv, _, ⟨_, h⟩ => ⟨_, h⟩
theorem exL_elim : ∀ {l : List Cl} {K : List PV → Prop}, exL l K → ∃ p, K p
  | [], _, h => ⟨_, h⟩
  | c :: r, K, h => by
    obtain ⟨p, h⟩ := Cl.ex_elim (c := c) h
    obtain ⟨ps, h⟩ := exL_elim h
    exact ⟨_, h⟩
theorem Sh.ex_elim : ∀ {s : Sh} {K : PV → Prop}, s.ex K → ∃ p, K p
  | .one _, _, h => Cl.ex_elim h
  | .agg _, _, h => by obtain ⟨_, h⟩ := exL_elim h; exact ⟨_, h⟩
theorem exS_elim : ∀ {l : List Sh} {K : List PV → Prop}, exS l K → ∃ p, K p
  | [], _, h => ⟨_, h⟩
  | c :: r, K, h => by
    obtain ⟨p, h⟩ := Sh.ex_elim (s := c) h
    obtain ⟨ps, h⟩ := exS_elim h
    exact ⟨_, h⟩
theorem Ty.ex_elim : ∀ {s : Ty} {K : PV → Prop}, s.ex K → ∃ p, K p
  | .sh _, _, h => Sh.ex_elim h
  | .tup _, _, h => by obtain ⟨_, h⟩ := exS_elim h; exact ⟨_, h⟩

/-- How an operation is dealt with: its value is told by its shape; what it needs is asked; what a call does is told. -/
inductive Ask where
  | told (t : Ty)
  | cond
  | tell (t : List PV → Store → (PV → Store → Prop) → Prop) (h : ∀ a S P, t a S P → ∃ r S', P r S')

/-! ### what operations need -/
def bndN (x : Option PV) (d : Nat) : Nat := match x with
  | some (.s (.int _ i)) => i.toNat
  | _ => d
def bndP (x : Option PV) (d : Nat) : Option Prop := match x with
  | none => some (d = d)
  | some (.s (.int _ i)) => some (0 ≤ i)
  | _ => none

theorem boundO_of {x : Option PV} {d most : Nat} {p : Prop} (hp : bndP x d = some p) (h : p) (hm : bndN x d ≤ most) : boundO x d most = some (bndN x d) := by
  unfold bndP at hp
  split at hp
  · rfl
  · rename_i i
    obtain rfl := Option.some.inj hp
    simp only [boundO, bndN] at hm ⊢
    rw [if_pos]
    exact ⟨h, by omega⟩
  · cases hp

def condBin (op : BinOp) (x y : PV) : Option (Prop × Value) :=
  match x, y with
  | .s (.int k a), .s (.int k' b) => match op with
    | .shl => some (0 ≤ b, .int k (k.wrap (a * 2 ^ min b.toNat k.bits)))
    | .shr => some (0 ≤ b, .int k (a.fdiv (2 ^ min b.toNat k.bits)))
    | .quo => if k = k' then some (b ≠ 0, .int k (k.wrap (a.tdiv b))) else none
    | .rem => if k = k' then some (b ≠ 0, .int k (a.tmod b)) else none
    | _ => none
  | .s (.string a), .s (.string b) => match op with
    | .add => some (a.size + b.size ≤ 9223372036854775807, .string (a ++ b))
    | _ => none
  | _, _ => none

theorem condBin_ok {P : Program} {op : BinOp} {t : TypeId} {x y : PV} {c : Prop} {v : Value} (h : condBin op x y = some (c, v)) (hc : c) : binO P op t x y = some (.s v) := by
  unfold condBin at h
  split at h
  · rename_i k a k' b
    split at h
    · obtain ⟨rfl, rfl⟩ := Prod.mk.inj (Option.some.inj h)
      simp [binO, binS, show ¬ b < 0 by omega]
    · obtain ⟨rfl, rfl⟩ := Prod.mk.inj (Option.some.inj h)
      simp [binO, binS, show ¬ b < 0 by omega]
    · split at h
      · obtain ⟨rfl, rfl⟩ := Prod.mk.inj (Option.some.inj h)
        rename_i e
        simp [binO, binS, intB, e, hc]
      · cases h
    · split at h
      · obtain ⟨rfl, rfl⟩ := Prod.mk.inj (Option.some.inj h)
        rename_i e
        simp [binO, binS, intB, e, hc]
      · cases h
    · cases h
  · split at h
    · obtain ⟨rfl, rfl⟩ := Prod.mk.inj (Option.some.inj h)
      simp [binO, binS, strB, hc]
    · cases h
  · cases h

def condIdx (P : Program) (T : LS) (t : TypeId) (x : RV) (i : PV) : Option (Prop × RV) :=
  match i, P.underlying t with
  | .s (.int _ i), some (.slice e) =>
    match x, size? P e with
    | .v (.sl _ n cs), some sz => some (0 ≤ i ∧ i < n ∧ i.toNat * sz < cs.length, .v (.cel cs (i.toNat * sz)))
    | .v (.bsl b ver off n), some sz => match T.S.get b with
      | some bx => some (bx.ver = ver ∧ 0 ≤ i ∧ i < n ∧ bx.esz = sz, .v (.ptr b ver (off + i.toNat * sz)))
      | none => none
    | _, _ => none
  | .s (.int _ i), some (.array n e) =>
    match size? P e with
    | some sz => (shift T x (i.toNat * sz)).map fun r => (0 ≤ i ∧ i < n, r)
    | none => none
  | _, _ => none

theorem condIdx_ok {P : Program} {T : LS} {t : TypeId} {x : RV} {i : PV} {c : Prop} {r : RV} (h : condIdx P T t x i = some (c, r)) (hc : c) : indexAddrO P T t x i = some r := by
  unfold condIdx at h
  unfold indexAddrO
  split at h
  · rename_i e he
    simp only [he]
    split at h
    · rename_i hs
      obtain ⟨rfl, rfl⟩ := Prod.mk.inj (Option.some.inj h)
      simp only [hs]
      rw [if_pos hc]
    · rename_i hs
      simp only [hs]
      split at h
      · rename_i bx hb
        obtain ⟨rfl, rfl⟩ := Prod.mk.inj (Option.some.inj h)
        simp only [hb]
        rw [if_pos hc]
      · cases h
    · cases h
  · rename_i n e he
    simp only [he]
    split at h
    · rename_i sz hs
      obtain ⟨r', h1, h2⟩ := Option.map_eq_some_iff.1 h
      obtain ⟨rfl, rfl⟩ := Prod.mk.inj h2
      simp only [hs]
      rw [if_pos hc, h1]
    · cases h
  · cases h

def condSl (P : Program) (T : LS) (t : TypeId) (x : PV) (lo hi mx : Option PV) : Option (Prop × PV) :=
  match bndP lo 0, x, P.underlying t with
  | some pl, .s (.string a), some .string =>
    match mx, bndP hi a.size with
    | none, some ph => some (pl ∧ ph ∧ bndN lo 0 ≤ bndN hi a.size ∧ bndN hi a.size ≤ a.size, .s (.string (a.extract (bndN lo 0) (bndN hi a.size))))
    | _, _ => none
  | some pl, .sl full n cs, some (.slice e) =>
    match bndP mx n, bndP hi n, size? P e with
    | some pm, some ph, some (sz + 1) => some (pl ∧ ph ∧ pm ∧ bndN lo 0 ≤ bndN hi n ∧ bndN hi n ≤ bndN mx n ∧ bndN mx n ≤ n ∧ n * (sz + 1) = cs.length,
        if mx.isSome then .sl (bndN hi n == bndN mx n) (bndN hi n - bndN lo 0) ((cs.drop (bndN lo 0 * (sz + 1))).take ((bndN hi n - bndN lo 0) * (sz + 1)))
        else .sl (full && bndN hi n == n) (bndN hi n - bndN lo 0) ((cs.drop (bndN lo 0 * (sz + 1))).take ((bndN hi n - bndN lo 0) * (sz + 1))))
    | _, _, _ => none
  | some pl, .bsl b ver off n, some (.slice e) =>
    match mx, bndP hi n, size? P e, T.S.get b with
    | none, some ph, some sz, some bx => some (pl ∧ ph ∧ bndN lo 0 ≤ bndN hi n ∧ bndN hi n ≤ n ∧ bx.ver = ver ∧ bx.esz = sz ∧ (bndN lo 0 < bndN hi n ∨ bndN lo 0 = 0), .bsl b ver (off + bndN lo 0 * sz) (bndN hi n - bndN lo 0))
    | _, _, _, _ => none
  | _, _, _ => none

theorem condSl_ok {P : Program} {T : LS} {t : TypeId} {x : PV} {lo hi mx : Option PV} {c : Prop} {r : PV} (h : condSl P T t x lo hi mx = some (c, r)) (hc : c) : sliceO P T t x lo hi mx = some r := by
  unfold condSl at h
  split at h
  · rename_i pl a hl ht
    split at h
    · rename_i ph hh
      obtain ⟨rfl, rfl⟩ := Prod.mk.inj (Option.some.inj h)
      obtain ⟨c1, c2, c3, c4⟩ := hc
      have e1 := boundO_of hh c2 c4
      have e2 := boundO_of hl c1 c3
      simp [sliceO, ht, e1, e2]
    · cases h
  · rename_i pl full n cs e hl ht
    split at h
    · rename_i pm ph sz hm hh hs
      obtain ⟨rfl, rfl⟩ := Prod.mk.inj (Option.some.inj h)
      obtain ⟨c1, c2, c3, c4, c5, c6, c7⟩ := hc
      have e0 := boundO_of hm c3 c6
      have e1 := boundO_of hh c2 c5
      have e2 := boundO_of hl c1 c4
      simp only [sliceO, ht, e0, hs, e1, e2]
      rw [if_pos ⟨c7, by omega⟩]
      cases mx with
      | none => rfl
      | some m => rfl
    · cases h
  · rename_i pl b ver off n e hl ht
    split at h
    · rename_i ph sz bx hh hs hb
      obtain ⟨rfl, rfl⟩ := Prod.mk.inj (Option.some.inj h)
      obtain ⟨c1, c2, c3, c4, c5, c6, c7⟩ := hc
      have e1 := boundO_of hh c2 c4
      have e2 := boundO_of hl c1 c3
      simp only [sliceO, ht, e1, hs, e2, hb]
      rw [if_pos ⟨c5, c6, c7⟩]
    · cases h
  · cases h

def condSrc (T : LS) (sz : Nat) : PV → Option (Prop × List PV × Nat)
  | .sl _ n cs => some (cs.length = n * sz, cs, n)
  | .bsl b ver off n => match T.S.get b with
    | some bx => some (bx.ver = ver ∧ off + n * sz ≤ bx.cs.length, (bx.cs.drop off).take (n * sz), n)
    | none => none
  | .s (.string a) => if sz = 1 then some (a.size = a.size, a.data.toList.map fun b => .s (.int .u8 b.toNat), a.size) else none
  | _ => none

theorem condSrc_ok {T : LS} {sz : Nat} {x : PV} {c : Prop} {r : List PV × Nat} (h : condSrc T sz x = some (c, r)) (hc : c) : srcO T sz x = some r := by
  unfold condSrc at h
  split at h
  · obtain ⟨rfl, rfl⟩ := Prod.mk.inj (Option.some.inj h)
    simp [srcO, hc]
  · split at h
    · rename_i bx hb
      obtain ⟨rfl, rfl⟩ := Prod.mk.inj (Option.some.inj h)
      simp only [srcO, hb]
      rw [if_pos hc]
    · cases h
  · split at h
    · rename_i e
      obtain ⟨rfl, rfl⟩ := Prod.mk.inj (Option.some.inj h)
      simp [srcO, e]
    · cases h
  · cases h

def condApp (P : Program) (T : LS) (t : TypeId) (s x : PV) : Option (Prop × PV × LS) :=
  match P.underlying t with
  | some (.slice e) => match P.info? e with
    | some i => match i.size with
      | 0 => none
      | sz + 1 => if (i.zero.any fun z => z.cells.size == sz + 1) = true then match condSrc T (sz + 1) x with
        | some (c, ps, m) => match s with
          | .sl full n cs => some (c ∧ ps.all oneC = true ∧ full = true ∧ cs.length = n * (sz + 1) ∧ cs.all oneC = true ∧ (n + m) * i.bytes ≤ 140737488355328 ∧ n + m ≤ 140737488355328 ∧ (n = 0 ∨ 0 < m),
              .bsl T.S.next 0 0 (n + m), { T with S := T.S.add ⟨0, sz + 1, cs ++ ps⟩ })
          | .bsl b ver off n => match T.S.get b with
            | some bx => some (c ∧ ps.all oneC = true ∧ bx.ver = ver ∧ off = 0 ∧ bx.esz = sz + 1 ∧ n * (sz + 1) ≤ bx.cs.length ∧ (bx.cs.take (n * (sz + 1))).all oneC = true ∧ (n + m) * i.bytes ≤ 140737488355328 ∧ n + m ≤ 140737488355328,
                .bsl b (ver + 1) 0 (n + m), { T with S := T.S.put b ⟨ver + 1, sz + 1, bx.cs.take (n * (sz + 1)) ++ ps⟩ })
            | none => none
          | _ => none
        | none => none
        else none
    | none => none
  | _ => none

theorem condApp_ok {P : Program} {T : LS} {t : TypeId} {s x : PV} {c : Prop} {r : PV × LS} (h : condApp P T t s x = some (c, r)) (hc : c) : appendO P T t s x = some r := by
  unfold condApp at h
  split at h
  · rename_i e ht
    split at h
    · rename_i i hi
      split at h
      · cases h
      · rename_i sz hsz
        split at h
        · rename_i hz
          split at h
          · rename_i c0 ps m hs
            split at h
            · rename_i full n cs
              obtain ⟨rfl, rfl⟩ := Prod.mk.inj (Option.some.inj h)
              obtain ⟨a0, a1, a2, a3, a4, a5, a6, a7⟩ := hc
              have := condSrc_ok hs a0
              subst a2
              simp only [appendO, ht, hi, hsz, this]
              rw [if_pos ⟨by omega, a1⟩, if_pos ⟨a3, a4, a5, a6, a7, hz⟩]
            · rename_i b ver off n
              split at h
              · rename_i bx hb
                obtain ⟨rfl, rfl⟩ := Prod.mk.inj (Option.some.inj h)
                obtain ⟨a0, a1, a2, a3, a4, a5, a6, a7, a8⟩ := hc
                have := condSrc_ok hs a0
                simp only [appendO, ht, hi, hsz, this, hb]
                rw [if_pos ⟨by omega, a1⟩, if_pos ⟨a2, a3, a4, a5, a6, a7, a8, hz⟩]
              · cases h
            · cases h
          · cases h
        · cases h
    · cases h
  · cases h

def condStore (P : Program) (T : LS) (t : TypeId) (p : RV) (x : PV) : Option (Prop × LS) :=
  match cellsO x, size? P t with
  | some ps, some n => if ps.length = n then
      match p with
      | .loc d off => match look T.L d with
        | some cs => some (off + n ≤ cs.length, { T with L := put T.L d (splice cs off ps) })
        | none => none
      | .v (.ptr b ver off) => match T.S.get b with
        | some bx => some (bx.ver = ver ∧ off + n ≤ bx.cs.length, { T with S := T.S.put b { bx with cs := splice bx.cs off ps } })
        | none => none
      | _ => none
    else none
  | _, _ => none

theorem condStore_ok {P : Program} {T T' : LS} {t : TypeId} {p : RV} {x : PV} {c : Prop} (h : condStore P T t p x = some (c, T')) (hc : c) : storeO P T t p x = some T' := by
  unfold condStore at h
  unfold storeO
  split at h
  · rename_i ps n h1 h2
    simp only [h1, h2]
    split at h
    · rename_i hl
      rw [if_pos hl]
      split at h
      · split at h
        · rename_i hk
          obtain ⟨rfl, rfl⟩ := Prod.mk.inj (Option.some.inj h)
          simp only [hk]
          rw [if_pos hc]
        · cases h
      · split at h
        · rename_i hk
          obtain ⟨rfl, rfl⟩ := Prod.mk.inj (Option.some.inj h)
          simp only [hk]
          rw [if_pos hc]
        · cases h
      · cases h
    · cases h
  · cases h

def condMake (P : Program) (T : LS) (t : TypeId) (n c : PV) : Option (Prop × PV × LS) :=
  match P.underlying t, n, c with
  | some (.slice e), .s (.int _ n), .s (.int _ c) =>
    match P.info? e, zeros P e with
    | some i, some z => if z.length = i.size ∧ 0 < i.size then some (0 ≤ n ∧ n ≤ c ∧ c * i.bytes ≤ 140737488355328 ∧ c ≤ 140737488355328,
        .bsl T.S.next 0 0 n.toNat, { T with S := T.S.add ⟨0, i.size, rep n.toNat z⟩ }) else none
    | _, _ => none
  | _, _, _ => none

theorem condMake_ok {P : Program} {T : LS} {t : TypeId} {n c : PV} {p : Prop} {r : PV × LS} (h : condMake P T t n c = some (p, r)) (hp : p) : makeSliceO P T t n c = some r := by
  unfold condMake at h
  unfold makeSliceO
  split at h
  · rename_i e n' c' ht
    simp only [ht]
    split at h
    · rename_i i z hi hz
      split at h
      · rename_i hc
        obtain ⟨rfl, rfl⟩ := Prod.mk.inj (Option.some.inj h)
        simp only [hi, hz]
        rw [if_pos ⟨hp.1, hp.2.1, hp.2.2.1, hp.2.2.2, hc.1, hc.2⟩]
      · cases h
    · cases h
  · cases h

def condCopy (P : Program) (T : LS) (t : TypeId) (d x : PV) : Option (Prop × PV × LS) :=
  match P.underlying t with
  | some (.slice e) => match size? P e with
    | some (sz + 1) => match condSrc T (sz + 1) x, d with
      | some (c, ps, m), .bsl b ver off n => match T.S.get b with
        | some bx => some (c ∧ bx.ver = ver ∧ bx.esz = sz + 1 ∧ off + n * (sz + 1) ≤ bx.cs.length ∧ ps.all oneC = true,
            .s (.int .i64 (min m n : Nat)), { T with S := T.S.put b { bx with cs := splice bx.cs off (ps.take (min m n * (sz + 1))) } })
        | none => none
      | _, _ => none
    | _ => none
  | _ => none

theorem condCopy_ok {P : Program} {T : LS} {t : TypeId} {d x : PV} {c : Prop} {r : PV × LS} (h : condCopy P T t d x = some (c, r)) (hc : c) : copyO P T t d x = some r := by
  unfold condCopy at h
  unfold copyO
  split at h
  · rename_i e ht
    simp only [ht]
    split at h
    · rename_i sz hs
      simp only [hs]
      split at h
      · rename_i c0 ps m b ver off n hsrc
        split at h
        · rename_i bx hb
          obtain ⟨rfl, rfl⟩ := Prod.mk.inj (Option.some.inj h)
          obtain ⟨a0, a1, a2, a3, a4⟩ := hc
          simp only [condSrc_ok hsrc a0, hb]
          rw [if_pos ⟨a1, a2, by omega, a3, a4⟩]
        · cases h
      · cases h
    · cases h
  · cases h

/-- What an operation needs, and what it yields then. -/
def condV (C : Cfg) (o : Oper) (F : Fr) : Option (Prop × RV × LS) :=
  match o.op with
  | .binOp op _ x y _ => (condBin op (F.ev C x).pv (F.ev C y).pv).map fun r => (r.1, .v (.s r.2), F.st)
  | .indexAddr t x i => (condIdx C.P F.st t (F.ev C x) (F.ev C i).pv).map fun r => (r.1, r.2, F.st)
  | .slice t x lo hi mx => if mx.isSome && hi.isNone then none else
      (condSl C.P F.st t (F.ev C x).pv (lo.map fun x => (F.ev C x).pv) (hi.map fun x => (F.ev C x).pv) (mx.map fun x => (F.ev C x).pv)).map fun r => (r.1, .v r.2, F.st)
  | .store t a x => (condStore C.P F.st t (F.ev C a) (F.ev C x).pv).map fun r => (r.1, .v .any, r.2)
  | .makeSlice t n c => (condMake C.P F.st t (F.ev C n).pv (F.ev C c).pv).map fun r => (r.1, .v r.2.1, r.2.2)
  | .call c => match c.callee with
    | .builtin .append => match c.args.toList, c.argTypes.toList with
      | [s, x], t :: u :: _ => match C.P.underlying u with
        | some (.slice _) => (condApp C.P F.st t (F.ev C s).pv (F.ev C x).pv).map fun r => (r.1, .v r.2.1, r.2.2)
        | some .string => (condApp C.P F.st t (F.ev C s).pv (F.ev C x).pv).map fun r => (r.1, .v r.2.1, r.2.2)
        | _ => none
      | _, _ => none
    | .builtin .copy => match c.args.toList, c.argTypes.toList with
      | [d, x], t :: _ => (condCopy C.P F.st t (F.ev C d).pv (F.ev C x).pv).map fun r => (r.1, .v r.2.1, r.2.2)
      | _, _ => none
    | _ => none
  | _ => none

theorem condV_ok {C : Cfg} {call : CallFn} {f : FuncId} {o : Oper} {F : Fr} {c : Prop} {r : RV} {T : LS} (h : condV C o F = some (c, r, T)) (hc : c) : evalOp C call f o (F.ev C) F.st = some (r, T, none) := by
  unfold condV at h
  unfold evalOp
  dsimp only
  split at h
  · rename_i hop
    simp only [hop]
    obtain ⟨⟨c1, v⟩, h1, h2⟩ := Option.map_eq_some_iff.1 h
    obtain ⟨rfl, h3⟩ := Prod.mk.inj h2
    obtain ⟨rfl, rfl⟩ := Prod.mk.inj h3
    rw [condBin_ok h1 hc]; rfl
  · rename_i hop
    simp only [hop]
    obtain ⟨⟨c1, v⟩, h1, h2⟩ := Option.map_eq_some_iff.1 h
    obtain ⟨rfl, h3⟩ := Prod.mk.inj h2
    obtain ⟨rfl, rfl⟩ := Prod.mk.inj h3
    rw [condIdx_ok h1 hc]; rfl
  · rename_i hop
    simp only [hop]
    split at h
    · cases h
    · rename_i hm
      rw [if_neg hm]
      obtain ⟨⟨c1, v⟩, h1, h2⟩ := Option.map_eq_some_iff.1 h
      obtain ⟨rfl, h3⟩ := Prod.mk.inj h2
      obtain ⟨rfl, rfl⟩ := Prod.mk.inj h3
      rw [condSl_ok h1 hc]; rfl
  · rename_i hop
    simp only [hop]
    obtain ⟨⟨c1, v⟩, h1, h2⟩ := Option.map_eq_some_iff.1 h
    obtain ⟨rfl, h3⟩ := Prod.mk.inj h2
    obtain ⟨rfl, rfl⟩ := Prod.mk.inj h3
    rw [condStore_ok h1 hc]; rfl
  · rename_i hop
    simp only [hop]
    obtain ⟨⟨c1, v⟩, h1, h2⟩ := Option.map_eq_some_iff.1 h
    obtain ⟨rfl, h3⟩ := Prod.mk.inj h2
    obtain ⟨rfl, rfl⟩ := Prod.mk.inj h3
    rw [condMake_ok h1 hc]; rfl
  · rename_i cl hop
    simp only [hop]
    split at h
    · rename_i hcl
      simp only [hcl]
      split at h
      · rename_i ha ht
        simp only [ha, ht]
        split at h
        · rename_i hu
          simp only [hu]
          obtain ⟨⟨c1, v⟩, h1, h2⟩ := Option.map_eq_some_iff.1 h
          obtain ⟨rfl, h3⟩ := Prod.mk.inj h2
          obtain ⟨rfl, rfl⟩ := Prod.mk.inj h3
          rw [condApp_ok h1 hc]; rfl
        · rename_i hu
          simp only [hu]
          obtain ⟨⟨c1, v⟩, h1, h2⟩ := Option.map_eq_some_iff.1 h
          obtain ⟨rfl, h3⟩ := Prod.mk.inj h2
          obtain ⟨rfl, rfl⟩ := Prod.mk.inj h3
          rw [condApp_ok h1 hc]; rfl
        · cases h
      · cases h
    · rename_i hcl
      simp only [hcl]
      split at h
      · rename_i ha ht
        simp only [ha, ht]
        obtain ⟨⟨c1, v⟩, h1, h2⟩ := Option.map_eq_some_iff.1 h
        obtain ⟨rfl, h3⟩ := Prod.mk.inj h2
        obtain ⟨rfl, rfl⟩ := Prod.mk.inj h3
        rw [condCopy_ok h1 hc]; rfl
      · cases h
    · cases h
  · cases h

/-- What cells hold at a place. -/
def ld (P : Program) (t : TypeId) (cs : List PV) (off : Nat) (p : PV) : Prop := loadO P ⟨[], ⟨[], 0⟩⟩ t (.v (.cel cs off)) = some p

theorem ld_cel {P : Program} {t : TypeId} {cs : List PV} {off : Nat} {p : PV} (h : ld P t cs off p) (T : LS) : loadO P T t (.v (.cel cs off)) = some p := h
theorem ld_ptr {P : Program} {t : TypeId} {off b ver : Nat} {bx : Box} {p : PV} {T : LS} (hb : T.S.get b = some bx) (hv : bx.ver = ver) (h : ld P t bx.cs off p) : loadO P T t (.v (.ptr b ver off)) = some p := by
  unfold ld loadO at h
  unfold loadO
  simp only [addrCells] at h ⊢
  rw [hb]
  simp only
  rw [if_pos hv]
  exact h

/-- An operation that is asked about. -/
def askV (C : Cfg) (call : CallFn) (o : Oper) (F : Fr) (a : Ask) (K : RV → LS → Prop) : Prop :=
  match a with
  | .told t => match o.op with
    | .load ty x => match F.ev C x with
      | .v (.cel cs off) => t.ex fun p => ld C.P ty cs off p ∧ K (.v p) F.st
      | .v (.ptr b ver off) => match F.st.S.get b with
        | some bx => t.ex fun p => (bx.ver = ver ∧ ld C.P ty bx.cs off p) ∧ K (.v p) F.st
        | none => False
      | _ => False
    | .index ty x i => t.ex fun p => indexO C.P ty (F.ev C x).pv (F.ev C i).pv = some p ∧ K (.v p) F.st
    | .call c => match c.callee with
      | .value g => match (F.ev C g).pv with
        | .fn (.func g) first captured => t.ex fun p => call g (first ++ c.args.toList.map (fun x => (F.ev C x).pv) ++ captured) F.st.S = some (p, F.st.S) ∧ K (.v p) F.st
        | _ => False
      | _ => False
    | _ => False
  | .tell t _ => match o.op with
    | .call c => match c.callee with
      | .value g => match (F.ev C g).pv with
        | .fn (.func g) first captured => t (first ++ c.args.toList.map (fun x => (F.ev C x).pv) ++ captured) F.st.S fun r S' =>
            call g (first ++ c.args.toList.map (fun x => (F.ev C x).pv) ++ captured) F.st.S = some (r, S') ∧ K (.v r) { F.st with S := S' }
        | _ => False
      | _ => False
    | _ => False
  | .cond => match condV C o F with
    | some (p, r, T) => p ∧ K r T
    | none => False

theorem askV_ok {C : Cfg} {call : CallFn} {f : FuncId} {o : Oper} {F : Fr} {a : Ask} {K : RV → LS → Prop} (h : askV C call o F a K) : ∃ r T, evalOp C call f o (F.ev C) F.st = some (r, T, none) ∧ K r T := by
  unfold askV at h
  split at h
  · split at h
    · rename_i hop
      split at h
      · rename_i hx
        obtain ⟨p, h1, h2⟩ := Ty.ex_elim h
        exact ⟨_, _, by unfold evalOp; dsimp only; simp only [hop, hx]; rw [ld_cel h1]; rfl, h2⟩
      · rename_i hx
        split at h
        · rename_i bx hb
          obtain ⟨p, ⟨hv, h1⟩, h2⟩ := Ty.ex_elim h
          exact ⟨_, _, by unfold evalOp; dsimp only; simp only [hop, hx]; rw [ld_ptr hb hv h1]; rfl, h2⟩
        · exact h.elim
      · exact h.elim
    · rename_i hop
      obtain ⟨p, h1, h2⟩ := Ty.ex_elim h
      exact ⟨_, _, by unfold evalOp; dsimp only; simp only [hop]; rw [h1]; rfl, h2⟩
    · rename_i c hop
      split at h
      · rename_i g hc
        split at h
        · rename_i g' first captured hg
          obtain ⟨p, h1, h2⟩ := Ty.ex_elim h
          refine ⟨_, _, ?_, h2⟩
          unfold evalOp; dsimp only; simp only [hop, hc, hg]; rw [h1]; rfl
        · exact h.elim
      · exact h.elim
    · exact h.elim
  · rename_i t ht
    split at h
    · rename_i c hop
      split at h
      · rename_i g hc
        split at h
        · rename_i g' first captured hg
          obtain ⟨p, S', h1, h2⟩ := ht _ _ _ h
          refine ⟨_, _, ?_, h2⟩
          unfold evalOp; dsimp only; simp only [hop, hc, hg]; rw [h1]; rfl
        · exact h.elim
      · exact h.elim
    · exact h.elim
  · split at h
    · rename_i p r T hcv
      exact ⟨_, _, condV_ok hcv h.1, h.2⟩
    · exact h.elim
end Go.Pvm
