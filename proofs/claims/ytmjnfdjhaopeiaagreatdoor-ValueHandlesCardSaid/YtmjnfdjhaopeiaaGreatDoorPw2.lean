/-
  A part of the proof: Pw2.
-/
import Derived.Test.YtmjnfdjhaopeiaaGreatDoorPw1
/-
  PVM: a region whose order is open.
-/
namespace Go.Pvm
open Go

/-- An entry of the trace is what the operation does. -/
def EntOK (C : Cfg) (call : FuncId → List PV → Store → Option (PV × Store)) (f : FuncId) (ops : Array Oper) (o : Oper) (x : Ent) : Prop :=
  (wantedO ops o x.F = some false ∧ x.r = .v (.s undef) ∧ x.e = .none ∧ x.rd = []) ∨
  (wantedO ops o x.F = some true ∧ ∃ T1, evalOp C call f o (x.F.ev C) x.F.st = some (x.r, T1, none) ∧ effO C o (x.F.ev C) x.F.st T1 = some (x.e, x.rd))

def frAt (l : List Ent) (F' : Fr) (i : Nat) : Fr := match l[i]? with | some x => x.F | none => F'

theorem trace_spec {C : Cfg} {call : FuncId → List PV → Store → Option (PV × Store)} {f : FuncId} {ops : Array Oper} :
    ∀ (os : List Oper) (F : Fr) (l : List Ent) (F' : Fr), traceOps C call f ops os F = some (l, F') →
      l.length = os.length ∧ frAt l F' 0 = F ∧ F'.nt = F.nt ∧ ∀ (i : Nat) (o : Oper) (x : Ent), os[i]? = some o → l[i]? = some x →
        EntOK C call f ops o x ∧ (o.dst.any fun d => F.nt ≤ d) = false ∧ frAt l F' (i + 1) = x.next o.dst
  | [], F, l, F', h => by
    simp only [traceOps, Option.some.injEq, Prod.mk.injEq] at h
    obtain ⟨rfl, rfl⟩ := h
    exact ⟨rfl, rfl, rfl, fun i o x ho => by simp at ho⟩
  | o :: os, F, l, F', h => by
    simp only [traceOps] at h
    split at h
    · cases h
    · rename_i hd
      have hd' : (o.dst.any fun d => F.nt ≤ d) = false := by simpa using hd
      split at h
      · cases h
      · rename_i x hx
        obtain ⟨⟨l', F1⟩, h1, h2⟩ := Option.map_eq_some_iff.1 h
        obtain ⟨rfl, rfl⟩ := Prod.mk.inj h2
        obtain ⟨g1, g2, g3, g4⟩ := trace_spec os _ _ _ h1
        have hxF : x.F = F ∧ EntOK C call f ops o x := by
          split at hx
          · cases hx
          · rename_i hw
            obtain rfl := Option.some.inj hx
            exact ⟨rfl, .inl ⟨hw, rfl, rfl, rfl⟩⟩
          · rename_i hw
            split at hx
            · rename_i p T1 he
              obtain ⟨⟨e, rd⟩, hf, rfl⟩ := Option.map_eq_some_iff.1 hx
              exact ⟨rfl, .inr ⟨hw, T1, he, hf⟩⟩
            · cases hx
        have hnt : (x.next o.dst).nt = F.nt := by
          rw [← hxF.1]
          unfold Ent.next Fr.seto
          split <;> rfl
        refine ⟨by simp [g1], by simp [frAt, hxF.1], g3.trans hnt, fun i o' x' ho hx' => ?_⟩
        cases i with
        | zero =>
          simp at ho hx'
          subst ho hx'
          refine ⟨hxF.2, hd', ?_⟩
          have : frAt (x :: l') F1 (0 + 1) = frAt l' F1 0 := by simp [frAt]
          rw [this, g2]
        | succ i =>
          obtain ⟨a1, a2, a3⟩ := g4 i o' x' (by simpa using ho) (by simpa using hx')
          refine ⟨a1, by rw [hnt] at a2; exact a2, ?_⟩
          have : frAt (x :: l') F1 (i + 1 + 1) = frAt l' F1 (i + 1) := by simp [frAt]
          rw [this, a3]

/-! ### the state, when some have been carried out -/
def TD (l : List Ent) (T : LS) (D : Nat → Bool) : Nat → LS
  | 0 => T
  | k + 1 => match l[k]? with
    | some x => if D k then x.e.app (TD l T D k) else TD l T D k
    | none => TD l T D k

def RD (ops : Array Oper) (l : List Ent) (F : Fr) (D : Nat → Bool) (t : Nat) : Nat → RV
  | 0 => F.get t
  | k + 1 => match ops[k]?, l[k]? with
    | some o, some x => if D k && o.dst == some t then x.r else RD ops l F D t k
    | _, _ => RD ops l F D t k

def shape (T : LS) (d : Nat) : Option Nat := (look T.L d).map List.length

def Fits (T : LS) : Eff → Prop
  | .loc d off ps => ∃ n, shape T d = some n ∧ off + ps.length ≤ n
  | .bst _ _ ps => 0 < ps.length
  | _ => True

theorem shape_app {T : LS} {e : Eff} (h : Fits T e) (d : Nat) : shape (e.app T) d = shape T d := by
  cases e with
  | bst b off ps =>
    have e1 : ((Eff.bst b off ps).app T).L = T.L := by simp only [Eff.app]; cases T.S.get b <;> rfl
    unfold shape; rw [e1]
  | loc d' off ps =>
    obtain ⟨n, h1, h2⟩ := h
    unfold shape at h1 ⊢
    obtain ⟨cs, hcs, rfl⟩ := Option.map_eq_some_iff.1 h1
    simp only [Eff.app, look_put]
    by_cases e : d' = d
    · subst e
      simp [hcs, splice_length h2]
    · simp [e]
  | _ => rfl

theorem Fits.of {T T' : LS} {e : Eff} (h : Fits T e) (hs : ∀ d, shape T d = shape T' d) : Fits T' e := by
  cases e with
  | loc d off ps => obtain ⟨n, h1, h2⟩ := h; exact ⟨n, (hs d) ▸ h1, h2⟩
  | bst b off ps => exact h
  | _ => trivial

/-- Does an effect touch what a key names? -/
def hit (e : Eff) (κ : Key) : Bool := e.wr.any fun x => clash x κ

theorem hit_not {e : Eff} {κ x : Key} (h : hit e κ = false) (hx : x ∈ e.wr) : clash x κ = false := by
  cases hc : clash x κ with
  | false => rfl
  | true =>
    have : hit e κ = true := List.any_eq_true.2 ⟨x, hx, hc⟩
    rw [h] at this; cases this

theorem setAt_nil (off : Nat) : ∀ (i : Nat) (cs : List PV), setAt off [] i cs = cs
  | _, [] => rfl
  | i, c :: cs => by simp [setAt, setAt_nil off (i + 1) cs]

/-- An effect leaves what is none of its keys. -/
theorem app_apart {T : LS} {e : Eff} (hf : Fits T e) {κ : Key} (hk : hit e κ = false) : agK (e.app T) T κ := by
  cases e with
  | none => cases κ <;> rfl
  | loc d off ps =>
    cases κ with
    | B b => rfl
    | H b => rfl
    | D b i => rfl
    | N => rfl
    | A => rfl
    | C d' i =>
      simp only [agK, Eff.app, look_put]
      by_cases e : d = d'
      · subst e
        obtain ⟨n, h1, h2⟩ := hf
        unfold shape at h1
        obtain ⟨cs, hcs, rfl⟩ := Option.map_eq_some_iff.1 h1
        simp only [hcs, if_true, Option.getD_some, Option.bind_some]
        have hi : ¬ (off ≤ i ∧ i < off + ps.length) := by
          rintro ⟨a, b⟩
          have := hit_not hk (x := .C d (off + (i - off))) (List.mem_map.2 ⟨i - off, List.mem_range.2 (by omega), rfl⟩)
          simp [clash] at this; omega
        unfold splice
        rcases Nat.lt_or_ge i off with h | h
        · rw [List.append_assoc, List.getElem?_append_left (by simp; omega), List.getElem?_take_of_lt h]
        · rw [List.getElem?_append_right (by simp; omega), List.getElem?_drop]
          congr 1
          simp; omega
      · simp [e]
  | bst b off ps =>
    cases hb : T.S.get b with
    | none =>
      have e1 : (Eff.bst b off ps).app T = T := by simp [Eff.app, hb]
      rw [e1]; cases κ <;> rfl
    | some bx =>
      have e1 : (Eff.bst b off ps).app T = { T with S := T.S.put b { bx with cs := setAt off ps 0 bx.cs } } := by simp [Eff.app, hb]
      rw [e1]
      cases κ with
      | N => rfl
      | C d i => rfl
      | A =>
        have h0 : 0 < ps.length := hf
        have := hit_not hk (x := .D b (off + 0)) (List.mem_map.2 ⟨0, List.mem_range.2 h0, rfl⟩)
        simp [clash] at this
      | B b' =>
        simp only [agK, Store.get_put]
        by_cases e : b = b'
        · subst e
          have hp : ps = [] := by
            cases ps with
            | nil => rfl
            | cons p ps =>
              have := hit_not hk (x := .D b (off + 0)) (List.mem_map.2 ⟨0, List.mem_range.2 (by simp), rfl⟩)
              simp [clash] at this
          subst hp
          simp [hb, setAt_nil]
        · simp [e]
      | H b' =>
        simp only [agK, Store.get_put]
        by_cases e : b = b'
        · subst e
          simp [hb, setAt_length]
        · simp [e]
      | D b' i =>
        simp only [agK, Store.get_put]
        by_cases e : b = b'
        · subst e
          have hi : ¬ (off ≤ i ∧ i < off + ps.length) := by
            rintro ⟨a, c⟩
            have := hit_not hk (x := .D b (off + (i - off))) (List.mem_map.2 ⟨i - off, List.mem_range.2 (by omega), rfl⟩)
            simp [clash] at this; omega
          have hc : (setAt off ps 0 bx.cs)[i]? = bx.cs[i]? := by
            rw [setAt_get, Nat.zero_add]
            cases bx.cs[i]? with
            | none => rfl
            | some c =>
              simp only [Option.map_some, Option.some.injEq]
              split
              · rw [List.getElem?_eq_none (by omega)]; rfl
              · rfl
          simp [hb, setAt_length, hc]
        · simp [e]
  | box b bx =>
    have hne : ∀ b', clash (.B b) κ = false → (κ = .B b' ∨ κ = .H b' ∨ ∃ i, κ = .D b' i) → b ≠ b' := by
      rintro b' hc (rfl | rfl | ⟨i, rfl⟩) <;> simpa [clash] using hc
    have hc := hit_not hk (x := .B b) (by simp [Eff.wr])
    cases κ with
    | B b' => simp only [agK, Eff.app, Store.get_put]; rw [if_neg (hne b' hc (.inl rfl))]
    | H b' => simp only [agK, Eff.app, Store.get_put]; rw [if_neg (hne b' hc (.inr (.inl rfl)))]
    | D b' i => simp only [agK, Eff.app, Store.get_put]; rw [if_neg (hne b' hc (.inr (.inr ⟨i, rfl⟩)))]
    | N => rfl
    | A => simp [clash] at hc
    | C d i => rfl
  | add b bx =>
    have hne : ∀ b', clash (.B b) κ = false → (κ = .B b' ∨ κ = .H b' ∨ ∃ i, κ = .D b' i) → b ≠ b' := by
      rintro b' hc (rfl | rfl | ⟨i, rfl⟩) <;> simpa [clash] using hc
    have hc := hit_not hk (x := .B b) (by simp [Eff.wr])
    have hget : ∀ b', b ≠ b' → ((Eff.add b bx).app T).S.get b' = T.S.get b' := by
      intro b' h
      show (if b = b' then _ else _) = _
      rw [if_neg h]; rfl
    cases κ with
    | B b' => exact hget b' (hne b' hc (.inl rfl))
    | H b' => simp only [agK]; rw [hget b' (hne b' hc (.inr (.inl rfl)))]
    | D b' i => simp only [agK]; rw [hget b' (hne b' hc (.inr (.inr ⟨i, rfl⟩)))]
    | N =>
      have := hit_not hk (x := .N) (by simp [Eff.wr])
      simp [clash] at this
    | A => simp [clash] at hc
    | C d i => rfl

theorem splice_in {cs ps : List PV} {off i : Nat} (h : off ≤ cs.length) (hi : i < ps.length) : (splice cs off ps)[off + i]? = ps[i]? := by
  unfold splice
  have e1 : (cs.take off).length = off := by simp; omega
  rw [List.append_assoc, List.getElem?_append_right (by omega), e1, Nat.add_sub_cancel_left, List.getElem?_append_left hi]

theorem splice_get {cs ps : List PV} {off i : Nat} (h : off + ps.length ≤ cs.length) : (splice cs off ps)[i]? = cs[i]?.map fun c => if off ≤ i then (ps[i - off]?).getD c else c := by
  rw [setAt_splice h, setAt_get, Nat.zero_add]

theorem bst_get {T : LS} {b b' off : Nat} {ps : List PV} : ((Eff.bst b off ps).app T).S.get b' = if b = b' then (T.S.get b).map fun bx => { bx with cs := setAt off ps 0 bx.cs } else T.S.get b' := by
  simp only [Eff.app]
  cases hb : T.S.get b with
  | none =>
    by_cases e : b = b'
    · subst e; simp [hb]
    · simp [e]
  | some bx => simp [Store.get_put]

/-- The same effect on states that agree. -/
theorem app_agree {T T' : LS} {e : Eff} (hf : Fits T e) (hs : ∀ d, shape T d = shape T' d) {κ : Key} (h : agK T T' κ) : agK (e.app T) (e.app T') κ := by
  have plain : hit e κ = false → agK (e.app T) (e.app T') κ := by
    intro hk
    have a1 := app_apart hf hk
    have a2 := app_apart (hf.of hs) hk
    cases κ <;> exact a1.trans (Eq.trans h a2.symm)
  cases hk : hit e κ with
  | false => exact plain hk
  | true =>
    cases e with
    | none => simp [hit, Eff.wr] at hk
    | loc d off ps =>
      cases κ with
      | B b => exact h
      | H b => exact h
      | D b i => exact h
      | N => exact h
      | A => exact h
      | C d' i =>
        simp only [agK, Eff.app, look_put] at h ⊢
        by_cases e : d = d'
        · subst e
          obtain ⟨n, h1, h2⟩ := hf
          have h1' : shape T' d = some n := (hs d) ▸ h1
          unfold shape at h1 h1'
          obtain ⟨cs, hcs, rfl⟩ := Option.map_eq_some_iff.1 h1
          obtain ⟨cs', hcs', hl⟩ := Option.map_eq_some_iff.1 h1'
          simp only [hcs, hcs', if_true, Option.getD_some, Option.bind_some] at h ⊢
          rw [splice_get h2, splice_get (by omega), h]
        · simpa [e] using h
    | bst b off ps =>
      cases κ with
      | N =>
        have e1 : ∀ T : LS, ((Eff.bst b off ps).app T).S.next = T.S.next := by
          intro T; simp only [Eff.app]; cases T.S.get b <;> rfl
        show _ = _
        rw [e1, e1]; exact h
      | A =>
        simp only [agK] at h
        simp only [agK, Eff.app, ← h]
        cases T.S.get b <;> simp [h]
      | C d i =>
        have e1 : ∀ T : LS, ((Eff.bst b off ps).app T).L = T.L := by
          intro T; simp only [Eff.app]; cases T.S.get b <;> rfl
        show _ = _
        rw [e1, e1]; exact h
      | B b' =>
        simp only [agK, bst_get] at h ⊢
        by_cases e : b = b'
        · subst e; rw [h]
        · simp [e, h]
      | H b' =>
        simp only [agK, bst_get] at h ⊢
        by_cases e : b = b'
        · subst e
          simpa [setAt_length, Option.map_map, Function.comp_def] using h
        · simpa [e] using h
      | D b' i =>
        simp only [agK, bst_get] at h ⊢
        by_cases e : b = b'
        · subst e
          rw [if_pos rfl, if_pos rfl, Option.map_map, Option.map_map]
          have := congrArg (Option.map fun (y : Nat × Nat × Nat × Option PV) => (y.1, y.2.1, y.2.2.1, y.2.2.2.map fun c => if off ≤ i then (ps[i - off]?).getD c else c)) h
          simpa [Option.map_map, Function.comp_def, setAt_length, setAt_get] using this
        · simpa [e] using h
    | box b bx =>
      cases κ with
      | N => exact h
      | A => simp only [agK, Eff.app] at h ⊢; rw [h]
      | C d i => exact h
      | B b' => simp only [agK, Eff.app, Store.get_put] at h ⊢; rw [h]
      | H b' => simp only [agK, Eff.app, Store.get_put] at h ⊢; by_cases e : b = b' <;> simp [e, h]
      | D b' i => simp only [agK, Eff.app, Store.get_put] at h ⊢; by_cases e : b = b' <;> simp [e, h]
    | add b bx =>
      have hget : ∀ (T : LS) b', ((Eff.add b bx).app T).S.get b' = if b = b' then some bx else T.S.get b' := fun T b' => rfl
      cases κ with
      | N => rfl
      | A => simp only [agK, Eff.app] at h ⊢; rw [h]
      | C d i => exact h
      | B b' => simp only [agK, hget] at h ⊢; rw [h]
      | H b' => simp only [agK, hget] at h ⊢; by_cases e : b = b' <;> simp [e, h]
      | D b' i => simp only [agK, hget] at h ⊢; by_cases e : b = b' <;> simp [e, h]

def Key.fine : Key → Bool
  | .D _ _ => true
  | .C _ _ => true
  | .N => true
  | _ => false

/-- What an effect hits is the same afterwards. -/
theorem app_hit {T T' : LS} {e : Eff} (hf : Fits T e) (hs : ∀ d, shape T d = shape T' d) {κ : Key} (hfine : κ.fine = true) (hk : hit e κ = true)
    (hh : ∀ b off ps, e = .bst b off ps → agK T T' (.H b)) : agK (e.app T) (e.app T') κ := by
  obtain ⟨x, hx, hc⟩ := List.any_eq_true.1 hk
  cases e with
  | none => simp [Eff.wr] at hx
  | loc d off ps =>
    obtain ⟨i, hi, rfl⟩ := List.mem_map.1 hx
    have hi' := List.mem_range.1 hi
    cases κ <;> simp only [clash, Bool.and_eq_true, beq_iff_eq, Bool.false_eq_true] at hc
    obtain ⟨rfl, rfl⟩ := hc
    obtain ⟨n, h1, h2⟩ := hf
    have h1' : shape T' d = some n := (hs d) ▸ h1
    unfold shape at h1 h1'
    obtain ⟨cs, hcs, rfl⟩ := Option.map_eq_some_iff.1 h1
    obtain ⟨cs', hcs', hl⟩ := Option.map_eq_some_iff.1 h1'
    simp only [agK, Eff.app, look_put, if_true, Option.bind_some, hcs, hcs', Option.getD_some]
    rw [splice_in (by omega) hi', splice_in (by omega) hi']
  | bst b off ps =>
    have h := hh b off ps rfl
    obtain ⟨i, hi, rfl⟩ := List.mem_map.1 hx
    have hi' := List.mem_range.1 hi
    cases κ <;> (try (cases hfine; done)) <;> simp only [clash, Bool.and_eq_true, beq_iff_eq, Bool.false_eq_true] at hc
    obtain ⟨rfl, rfl⟩ := hc
    simp only [agK, bst_get, if_true, Option.map_map]
    rcases head_of h with ⟨h1, h2⟩ | ⟨bx, bx', h1, h2, e1, e2, e3⟩
    · rw [h1, h2]
    · rw [h1, h2]
      simp only [Option.map_some, Function.comp_apply, Option.some.injEq, Prod.mk.injEq, setAt_length, e1, e2, e3, true_and, setAt_get]
      rcases Nat.lt_or_ge (off + i) bx.cs.length with hl | hl
      · rw [List.getElem?_eq_getElem hl, List.getElem?_eq_getElem (by omega : off + i < bx'.cs.length)]
        simp [hi']
      · rw [List.getElem?_eq_none hl, List.getElem?_eq_none (by omega : bx'.cs.length ≤ off + i)]
  | box b bx =>
    simp only [Eff.wr, List.mem_singleton] at hx
    subst hx
    cases κ <;> (try (cases hfine; done)) <;> simp only [clash, beq_iff_eq, Bool.false_eq_true] at hc
    subst hc
    simp [agK, Eff.app, Store.get_put]
  | add b bx =>
    have hget : ∀ (T : LS) b', ((Eff.add b bx).app T).S.get b' = if b = b' then some bx else T.S.get b' := fun T b' => rfl
    cases κ with
    | N => rfl
    | A => cases hfine
    | B b' => cases hfine
    | H b' => cases hfine
    | C d i =>
      simp only [Eff.wr, List.mem_cons, List.not_mem_nil, or_false] at hx
      rcases hx with rfl | rfl <;> simp [clash] at hc
    | D b' i =>
      simp only [Eff.wr, List.mem_cons, List.not_mem_nil, or_false] at hx
      rcases hx with rfl | rfl
      · simp [clash] at hc
      · simp only [clash, beq_iff_eq] at hc
        subst hc
        simp [agK, hget]

theorem clash_symm (a b : Key) : clash a b = clash b a := by
  cases a <;> cases b <;> simp only [clash] <;> (first | rfl | (rw [Bool.eq_iff_iff]; simp only [Bool.and_eq_true, beq_iff_eq]; constructor <;> (intro h; first | exact h.symm | exact ⟨h.1.symm, h.2.symm⟩)))

theorem clash_tri {a b κ : Key} (hf : κ.fine = true) (ha : clash a κ = true) (hb : clash b κ = true) : clash a b = true := by
  cases κ <;> try (cases hf; done)
  all_goals cases a <;> simp only [clash, Bool.and_eq_true, beq_iff_eq, Bool.false_eq_true] at ha
  all_goals cases b <;> simp only [clash, Bool.and_eq_true, beq_iff_eq, Bool.false_eq_true] at hb ⊢
  all_goals first
    | (obtain ⟨rfl, rfl⟩ := ha; obtain ⟨rfl, rfl⟩ := hb; exact ⟨rfl, rfl⟩)
    | (obtain ⟨rfl, rfl⟩ := ha; subst hb; rfl)
    | (obtain ⟨rfl, rfl⟩ := hb; subst ha; rfl)
    | (subst ha; subst hb; rfl)

theorem agK.symm {T T' : LS} {κ : Key} (h : agK T T' κ) : agK T' T κ := by cases κ <;> exact Eq.symm h
theorem agK.trans {T T' T'' : LS} {κ : Key} (h : agK T T' κ) (k : agK T' T'' κ) : agK T T'' κ := by cases κ <;> exact Eq.trans h k
theorem agK.rfl' (T : LS) (κ : Key) : agK T T κ := by cases κ <;> rfl

section
variable {l : List Ent} {T : LS} (hfit : ∀ (i : Nat) (x : Ent), l[i]? = some x → Fits T x.e)
  include hfit

theorem shape_TD (D : Nat → Bool) : ∀ (k d : Nat), shape (TD l T D k) d = shape T d
  | 0, d => rfl
  | k + 1, d => by
    have ih := shape_TD D k
    simp only [TD]
    cases hx : l[k]? with
    | none => exact ih d
    | some x =>
      simp only
      split
      · rw [shape_app ((hfit k x hx).of fun d => (ih d).symm), ih]
      · exact ih d

theorem fits_TD (D : Nat → Bool) (k : Nat) {i : Nat} {x : Ent} (hx : l[i]? = some x) : Fits (TD l T D k) x.e := (hfit i x hx).of fun d => (shape_TD hfit D k d).symm

theorem TD_agree {D D' : Nat → Bool} {κ : Key} : ∀ k, (∀ j x, j < k → D j ≠ D' j → l[j]? = some x → hit x.e κ = false) → agK (TD l T D k) (TD l T D' k) κ
  | 0, _ => agK.rfl' _ _
  | k + 1, h => by
    have ih := TD_agree k (fun j x hj => h j x (by omega))
    simp only [TD]
    cases hx : l[k]? with
    | none => exact ih
    | some x =>
      simp only
      by_cases e : D k = D' k
      · rw [e]
        split
        · exact app_agree (fits_TD hfit D k hx) (fun d => (shape_TD hfit D k d).trans (shape_TD hfit D' k d).symm) ih
        · exact ih
      · have hk := h k x (Nat.lt_succ_self _) e hx
        cases hD : D k <;> cases hD' : D' k <;> simp only [hD, hD', Bool.false_eq_true, if_false, if_true] at e ⊢
        · exact absurd trivial e
        · exact ih.trans (app_apart (fits_TD hfit D' k hx) hk).symm
        · exact (app_apart (fits_TD hfit D k hx) hk).trans ih
        · exact absurd trivial e

/-- Nothing is carried out behind place i. -/
theorem TD_stop {D : Nat → Bool} {κ : Key} (i : Nat) : ∀ k, i ≤ k → (∀ j x, i ≤ j → j < k → D j = true → l[j]? = some x → hit x.e κ = false) → agK (TD l T D k) (TD l T D i) κ
  | 0, hk, _ => by obtain rfl : i = 0 := by omega
                   exact agK.rfl' _ _
  | k + 1, hk, h => by
    rcases Nat.lt_or_ge k i with hi | hi
    · obtain rfl : i = k + 1 := by omega
      exact agK.rfl' _ _
    · have ih := TD_stop i k hi (fun j x h1 h2 => h j x h1 (by omega))
      simp only [TD]
      cases hx : l[k]? with
      | none => exact ih
      | some x =>
        simp only
        cases hD : D k with
        | false => simpa [hD] using ih
        | true =>
          simp only [if_true]
          exact (app_apart (fits_TD hfit D k hx) (h k x hi (Nat.lt_succ_self _) hD hx)).trans ih
end

theorem TD_same {l : List Ent} {T : LS} {D D' : Nat → Bool} : ∀ k, (∀ j, j < k → D j = D' j) → TD l T D k = TD l T D' k
  | 0, _ => rfl
  | k + 1, h => by
    simp only [TD, TD_same k (fun j hj => h j (by omega)), h k (Nat.lt_succ_self _)]

theorem RD_same {ops : Array Oper} {l : List Ent} {F : Fr} {D D' : Nat → Bool} {t : Nat} : ∀ k, (∀ j o, j < k → D j ≠ D' j → ops[j]? = some o → o.dst ≠ some t) →
    RD ops l F D t k = RD ops l F D' t k
  | 0, _ => rfl
  | k + 1, h => by
    have ih := RD_same (ops := ops) (l := l) (F := F) k (fun j o hj => h j o (by omega))
    simp only [RD]
    cases ho : ops[k]? with
    | none => exact ih
    | some o =>
      cases hx : l[k]? with
      | none => exact ih
      | some x =>
        simp only
        by_cases e : D k = D' k
        · rw [e, ih]
        · have hne := h k o (Nat.lt_succ_self _) e ho
          have : (o.dst == some t) = false := by simpa using hne
          simp [this, ih]

/-- States that agree in all are the same to look at. -/
structure Alike (T T' : LS) : Prop where
  get : ∀ b, T.S.get b = T'.S.get b
  next : T.S.next = T'.S.next
  look : ∀ d, look T.L d = look T'.L d

theorem Alike.of {T T' : LS} (hs : ∀ d, shape T d = shape T' d) (h : ∀ κ, κ.fine = true → agK T T' κ) : Alike T T' := by
  refine ⟨fun b => ?_, h .N rfl, fun d => ?_⟩
  · rcases head_of (head_of_cell (h (.D b 0) rfl)) with ⟨h1, h2⟩ | ⟨bx, bx', h1, h2, e1, e2, e3⟩
    · rw [h1, h2]
    · rw [h1, h2]
      have hc : bx.cs = bx'.cs := by
        apply List.ext_getElem?
        intro i
        have := h (.D b i) rfl
        simp only [agK, h1, h2, Option.map_some, Option.some.injEq, Prod.mk.injEq] at this
        exact this.2.2.2
      cases bx; cases bx'
      simp only at e1 e2 hc
      subst e1 e2 hc
      rfl
  have h1 := hs d
  unfold shape at h1
  cases ha : Pvm.look T.L d with
  | none =>
    cases hb : Pvm.look T'.L d with
    | none => rfl
    | some cs' => rw [ha, hb] at h1; cases h1
  | some cs =>
    cases hb : Pvm.look T'.L d with
    | none => rw [ha, hb] at h1; cases h1
    | some cs' =>
      congr 1
      apply List.ext_getElem?
      intro i
      have := h (.C d i) rfl
      simpa [agK, ha, hb] using this

theorem Step.alike {E : Env} (h : Inv E) {T : LS} (hg : ∀ b, E.S.get b = T.S.get b) (hn : E.S.next = T.S.next) (hl : ∀ d, look E.L d = look T.L d) :
    Step E { E with S := T.S, L := T.L } := by
  have hmod : ∀ k, Mod { E with S := T.S, L := T.L } k → Mod E k := by
    intro k hm
    rcases hm with ⟨b, bx, hb, hk⟩ | ⟨d, cs, hd, rfl⟩
    · exact .inl ⟨b, bx, (hg b).trans hb, hk⟩
    · exact .inr ⟨d, cs, (hl d).trans hd, rfl⟩
  have hext : Ext E { E with S := T.S, L := T.L } := ⟨rfl, rfl, rfl, Nat.le_refl _, fun _ _ _ => rfl, fun _ h => h, fun _ h => .inl h, fun k hk => .inr (hmod k hk), Nat.le_of_eq hn,
    fun b bx' _ hx => ⟨bx', (hg b).trans hx, fun _ => ⟨rfl, rfl, rfl⟩, Nat.le_refl _⟩⟩
  have hle := hext.le h
  refine ⟨hext, ⟨fun k hk => ⟨(h.gam k hk).1, fun hm => (h.gam k hk).2 (hmod k hm)⟩, fun b bx hb => ?_, fun b b' bx bx' k hb hb' => h.inj b b' bx bx' k ((hg b).trans hb) ((hg b').trans hb'),
    fun d cs hd => (h.loc d cs ((hl d).trans hd)).mono hle rfl, fun d d' cs cs' hd hd' => h.linj d d' cs cs' ((hl d).trans hd) ((hl d').trans hd'),
    fun b bx d cs hb hd => h.apart b bx d cs ((hg b).trans hb) ((hl d).trans hd)⟩, fun d cs hd => ⟨⟨cs, (hl d).symm.trans hd⟩, rfl⟩⟩
  obtain ⟨h1, h2, h3, h4⟩ := h.box b bx ((hg b).trans hb)
  exact ⟨by show b < T.S.next; rw [← hn]; exact h1, h2, fun k hk => (h3 k hk).mono hle rfl, h4⟩
end Go.Pvm
