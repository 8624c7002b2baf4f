/-
  A part of the proof: Pw3.
-/
import Derived.Test.YtmjnfdjhaopeiaaGreatDoorPw2
/-
  PVM: a region whose order is open, carried out in any order.
-/
namespace Go.Pvm
open Go

theorem eff_fits {C : Cfg} {call : FuncId → List PV → Store → Option (PV × Store)} {f : FuncId} {o : Oper} {ρ : Operand → RV} {T T1 : LS} {r : RV} {e : Eff} {rd : List Key}
    (h : evalOp C call f o ρ T = some (r, T1, none)) (he : effO C o ρ T T1 = some (e, rd)) : Fits T e := by
  cases e with
  | none => trivial
  | box b bx => trivial
  | add b bx => trivial
  | bst b off ps =>
    unfold effO at he
    dsimp only at he
    cases hop : o.op <;> simp only [hop] at he <;> try (cases he; done) <;> try (simp at he; done)
    case store t x y =>
      split at he
      · simp at he
      · split at he
        · split at he
          · cases he
          · rename_i hps
            simp only [Option.some.injEq, Prod.mk.injEq, Eff.bst.injEq] at he
            obtain ⟨⟨rfl, rfl, rfl⟩, rfl⟩ := he
            exact Nat.pos_of_ne_zero hps
        · cases he
      · cases he
    case makeSlice t n c =>
      split at he
      · split at he <;> simp at he
      · cases he
    case alloc t => split at he <;> simp at he
    case box t x => split at he <;> simp at he
    case call c =>
      cases hc : c.callee with
      | invoke rc m => rw [hc] at he; simp at he
      | builtin b =>
        rw [hc] at he
        cases b <;> simp only at he <;> try (cases he; done) <;> try (simp at he; done)
        case append =>
          split at he
          · split at he
            · split at he <;> simp at he
            · split at he <;> simp at he
            · cases he
          · cases he
        case copy =>
          split at he
          · split at he
            · split at he <;> simp at he
            · cases he
          · cases he
      | value g =>
        rw [hc] at he
        simp only at he
        split at he
        · split at he
          · simp at he
          · split at he <;> simp at he
        · cases he
  | loc d off ps =>
    unfold evalOp at h
    unfold effO at he
    dsimp only at h he
    cases hop : o.op <;> simp only [hop] at h he <;> try (cases he; done) <;> try (simp at he; done)
    case store t x y =>
      obtain ⟨T2, hp, _⟩ := Option.map_eq_some_iff.1 h
      unfold storeO at hp
      split at he
      · rename_i ps' d' off' hps hx
        simp only [Option.some.injEq, Prod.mk.injEq, Eff.loc.injEq] at he
        obtain ⟨⟨rfl, rfl, rfl⟩, rfl⟩ := he
        rw [hps, hx] at hp
        cases hn : size? C.P t with
        | none => simp [hn] at hp
        | some n =>
          simp only [hn] at hp
          split at hp
          · rename_i hpn
            cases hd : look T.L d' with
            | none => simp [hd] at hp
            | some cs =>
              simp only [hd] at hp
              split at hp
              · rename_i hfit
                exact ⟨cs.length, by simp [shape, hd], by omega⟩
              · cases hp
          · cases hp
      · split at he <;> simp at he
      · cases he
    case makeSlice t n c =>
      split at he
      · split at he <;> simp at he
      · cases he
    case alloc t => split at he <;> simp at he
    case box t x => split at he <;> simp at he
    case call c =>
      cases hc : c.callee with
      | invoke rc m => rw [hc] at he; simp at he
      | builtin b =>
        rw [hc] at he
        cases b <;> simp only at he <;> try (cases he; done) <;> try (simp at he; done)
        case append =>
          split at he
          · split at he
            · split at he <;> simp at he
            · split at he <;> simp at he
            · cases he
          · cases he
        case copy =>
          split at he
          · split at he
            · split at he <;> simp at he
            · cases he
          · cases he
      | value g =>
        rw [hc] at he
        simp only at he
        split at he
        · split at he
          · simp at he
          · split at he <;> simp at he
        · cases he

theorem wanted_of {ops : Array Oper} {o : Oper} {F : Fr} {E : Env} {tmps : Array Value} {b : Bool} (hw : wantedO ops o F = some b)
    (h : ∀ j want d, o.guard = some (j, want) → (ops[j]?).bind (·.dst) = some d → V E (F.get d) (tmps.getD d undef)) :
    Region.wanted o (yielded ops tmps) = b := by
  unfold wantedO at hw
  unfold Region.wanted
  split at hw
  · rename_i hg
    obtain rfl := Option.some.inj hw
    rw [hg]
  · rename_i j want hg
    rw [hg]
    split at hw
    · rename_i d hd
      split at hw
      · rename_i b' hb
        obtain rfl := Option.some.inj hw
        have hr := h j want d hg hd
        rw [hb] at hr
        have hr' : tmps.getD d undef = .bool b' := hr
        have ht : tmps[d]? = some (.bool b') := by
          rw [Array.getD_eq_getD_getElem?] at hr'
          cases hq : tmps[d]? with
          | none => rw [hq] at hr'; cases hr'
          | some u => rw [hq] at hr'; simp at hr'; rw [hr']
        simp [yielded, hd, ht]
      · rename_i u hb
        obtain rfl := Option.some.inj hw
        have hr := h j want d hg hd
        rw [hb] at hr
        have hr' : tmps.getD d undef = .tuple u := hr
        rw [Array.getD_eq_getD_getElem?] at hr'
        cases hq : tmps[d]? with
        | none => simp [yielded, hd, hq]
        | some u' => rw [hq] at hr'; simp at hr'; simp [yielded, hd, hq, hr']
      · cases hw
    · cases hw

/-- What is fixed of a region whose order is open. -/
structure Drawn (C : Cfg) (rn : FuncId → List PV → Store → Option (PV × Store)) (f : FuncId) (ops : Array Oper) (F F' : Fr) (l : List Ent) : Prop where
  len : l.length = ops.size
  zero : frAt l F' 0 = F
  nt : F'.nt = F.nt
  ent : ∀ (i : Nat) (o : Oper) (x : Ent), ops[i]? = some o → l[i]? = some x → EntOK C (callF C rn) f ops o x ∧ (o.dst.any fun d => F.nt ≤ d) = false ∧ frAt l F' (i + 1) = x.next o.dst
  lt : ∀ (j : Nat) (o : Oper) (e : Edge), ops[j]? = some o → e ∈ o.after → Region.binds .any e = true → e.on < j
  elder : ∀ i j : Nat, i < j → elder? ops i j = true → ∃ o e, ops[j]? = some o ∧ e ∈ o.after ∧ Region.binds .any e = true ∧ (e.on = i ∨ i < e.on ∧ elder? ops i e.on = true)
  tmps : ∀ (i j : Nat) (x y : Oper), i < j → ops[i]? = some x → ops[j]? = some y → elder? ops i j = false → x.apart ops y = true
  keys : ∀ (i j : Nat) (x y : Ent), i < j → l[i]? = some x → l[j]? = some y → elder? ops i j = false → apart? x.e.wr (y.rd ++ y.e.wr) = true ∧ apart? y.e.wr (x.rd ++ x.e.wr) = true

theorem apart_hit {e : Eff} {b : List Key} (h : apart? e.wr b = true) {κ : Key} (hb : κ ∈ b) : hit e κ = false := by
  cases hc : hit e κ with
  | false => rfl
  | true =>
    obtain ⟨x, hx, hk⟩ := List.any_eq_true.1 hc
    have := List.all_eq_true.1 (List.all_eq_true.1 h x hx) κ hb
    rw [hk] at this; cases this

section
variable {C : Cfg} {rn : FuncId → List PV → Store → Option (PV × Store)} {f : FuncId} {ops : Array Oper} {F F' : Fr} {l : List Ent} (d : Drawn C rn f ops F F' l)
  include d

theorem Drawn.st (i : Nat) (hi : i ≤ ops.size) : (frAt l F' i).st = TD l F.st (fun _ => true) i := by
  induction i with
  | zero => rw [d.zero]; rfl
  | succ i ih =>
    have hx : i < l.length := by have := d.len; omega
    have ho : i < ops.size := by omega
    obtain ⟨_, _, h3⟩ := d.ent i ops[i] l[i] (by simp [ho]) (by simp [hx])
    rw [h3]
    have hF : frAt l F' i = l[i].F := by simp [frAt, hx]
    have ih' := ih (by omega)
    rw [hF] at ih'
    simp only [TD, List.getElem?_eq_getElem hx, if_true, ← ih']
    unfold Ent.next Fr.seto
    split <;> rfl

theorem Drawn.get (t : Nat) (i : Nat) (hi : i ≤ ops.size) : (frAt l F' i).get t = RD ops l F (fun _ => true) t i := by
  induction i with
  | zero => rw [d.zero]; rfl
  | succ i ih =>
    have hx : i < l.length := by have := d.len; omega
    have ho : i < ops.size := by omega
    obtain ⟨_, _, h3⟩ := d.ent i ops[i] l[i] (by simp [ho]) (by simp [hx])
    rw [h3]
    have hF : frAt l F' i = l[i].F := by simp [frAt, hx]
    have ih' := ih (by omega)
    rw [hF] at ih'
    simp only [RD, Array.getElem?_eq_getElem ho, List.getElem?_eq_getElem hx, Bool.true_and, ← ih']
    unfold Ent.next Fr.seto
    cases hd : ops[i].dst with
    | none => simp [Fr.get]
    | some dd =>
      simp only [get_set]
      by_cases e : dd = t
      · simp [e]
      · have : (some dd == some t) = false := by simpa using e
        simp [e, this, Fr.get]

theorem Drawn.fits : ∀ (i : Nat) (x : Ent), l[i]? = some x → Fits F.st x.e := by
  have key : ∀ n, n ≤ ops.size → (∀ (i : Nat) (x : Ent), i < n → l[i]? = some x → Fits F.st x.e) ∧ ∀ dd, shape (frAt l F' n).st dd = shape F.st dd := by
    intro n
    induction n with
    | zero => intro _; exact ⟨fun i x hi => by omega, fun dd => by rw [d.zero]⟩
    | succ n ih =>
      intro hn
      obtain ⟨h1, h2⟩ := ih (by omega)
      have hx : n < l.length := by have := d.len; omega
      have ho : n < ops.size := by omega
      obtain ⟨g1, _, g3⟩ := d.ent n ops[n] l[n] (by simp [ho]) (by simp [hx])
      have hF : frAt l F' n = l[n].F := by simp [frAt, hx]
      have hfn : Fits l[n].F.st l[n].e := by
        rcases g1 with ⟨_, _, he, _⟩ | ⟨_, T1, he, hf⟩
        · rw [he]; trivial
        · exact eff_fits he hf
      rw [hF] at h2
      have hst : (frAt l F' (n + 1)).st = l[n].e.app l[n].F.st := by
        rw [g3]; unfold Ent.next Fr.seto; split <;> rfl
      refine ⟨fun i x hi hx' => ?_, fun dd => ?_⟩
      · rcases Nat.lt_or_ge i n with h | h
        · exact h1 i x h hx'
        · obtain rfl : i = n := by omega
          simp [hx] at hx'
          subst hx'
          exact hfn.of h2
      · rw [hst, shape_app hfn, h2]
  intro i x hx
  have hi : i < l.length := by
    rcases Nat.lt_or_ge i l.length with h | h
    · exact h
    · simp [List.getElem?_eq_none h] at hx
  exact (key ops.size (Nat.le_refl _)).1 i x (by rw [← d.len]; exact hi) hx

/-- Who has been carried out has all its elders carried out before. -/
theorem Drawn.closed {D : Nat → Bool} (hD : ∀ (j : Nat) (o : Oper) (e : Edge), D j = true → ops[j]? = some o → e ∈ o.after → Region.binds .any e = true → D e.on = true) :
    ∀ (j i : Nat), D j = true → i < j → elder? ops i j = true → D i = true := by
  intro j
  induction j using Nat.strongRecOn with
  | _ j ih =>
    intro i hj hij he
    obtain ⟨o, e, ho, hm, hb, h⟩ := d.elder i j hij he
    have hlt := d.lt j o e ho hm hb
    have hon := hD j o e hj ho hm hb
    rcases h with rfl | ⟨hi, h⟩
    · exact hon
    · exact ih e.on hlt i hon hi h

/-- The state, and one more carried out. -/
theorem Drawn.more {D : Nat → Bool} (hD : ∀ (j : Nat) (o : Oper) (e : Edge), D j = true → ops[j]? = some o → e ∈ o.after → Region.binds .any e = true → D e.on = true)
    {i : Nat} (hi : i < ops.size) (hDi : D i = false) {x : Ent} (hx : l[i]? = some x) :
    Alike (x.e.app (TD l F.st D ops.size)) (TD l F.st (fun j => D j || j == i) ops.size) := by
  have hfit := d.fits
  have hcl := d.closed hD
  have hsh : ∀ D' k dd, shape (TD l F.st D' k) dd = shape F.st dd := fun D' k dd => shape_TD hfit D' k dd
  have hfx : ∀ D' k, Fits (TD l F.st D' k) x.e := fun D' k => fits_TD hfit D' k hx
  -- nobody behind turns what this one turned
  have behind : ∀ (j : Nat) (y : Ent), i < j → j < ops.size → D j = true → l[j]? = some y → apart? y.e.wr (x.rd ++ x.e.wr) = true := by
    intro j y hij hj hDj hy
    have he : elder? ops i j = false := by
      cases h : elder? ops i j with
      | false => rfl
      | true => have := hcl j i hDj hij h; rw [hDi] at this; cases this
    exact (d.keys i j x y hij hx hy he).2
  refine Alike.of (fun dd => by rw [shape_app (hfx D ops.size), hsh, hsh]) fun κ hfine => ?_
  cases hκ : hit x.e κ with
  | true =>
    have later : ∀ (j : Nat) (y : Ent), i < j → j < ops.size → D j = true → l[j]? = some y → hit y.e κ = false := by
      intro j y hij hj hDj hy
      cases hq : hit y.e κ with
      | false => rfl
      | true =>
        obtain ⟨k1, hk1, hc1⟩ := List.any_eq_true.1 hκ
        obtain ⟨k2, hk2, hc2⟩ := List.any_eq_true.1 hq
        have := List.all_eq_true.1 (List.all_eq_true.1 (behind j y hij hj hDj hy) k2 hk2) k1 (List.mem_append.2 (.inr hk1))
        rw [clash_tri hfine hc2 hc1] at this; cases this
    have h1 : agK (TD l F.st (fun j => D j || j == i) ops.size) (TD l F.st (fun j => D j || j == i) (i + 1)) κ :=
      TD_stop hfit (i + 1) ops.size (by omega) (fun j y h1 h2 h3 hy => later j y (by omega) h2 (by simpa [show j ≠ i by omega] using h3) hy)
    have h2 : TD l F.st (fun j => D j || j == i) (i + 1) = x.e.app (TD l F.st D i) := by
      simp only [TD, hx, beq_self_eq_true, Bool.or_true, if_true]
      congr 1
      exact TD_same i (fun j hj => by simp [show j ≠ i by omega])
    rw [h2] at h1
    refine (app_hit (hfx D ops.size) (fun dd => by rw [hsh, hsh]) hfine hκ fun b off ps he => ?_).trans h1.symm
    refine TD_stop hfit i ops.size (by omega) fun j y h1 h2 h3 hy => ?_
    have hij : i < j := by
      rcases Nat.lt_or_ge i j with h | h
      · exact h
      · obtain rfl : i = j := by omega
        rw [hDi] at h3; cases h3
    cases hq : hit y.e (.H b) with
    | false => rfl
    | true =>
      exfalso
      obtain ⟨k2, hk2, hc2⟩ := List.any_eq_true.1 hq
      obtain ⟨k1, hk1, _⟩ := List.any_eq_true.1 hκ
      have := List.all_eq_true.1 (List.all_eq_true.1 (behind j y hij h2 h3 hy) k2 hk2) k1 (List.mem_append.2 (.inr hk1))
      rw [he] at hk1
      obtain ⟨i', _, rfl⟩ := List.mem_map.1 hk1
      cases k2 with
      | B b2 =>
        simp only [clash, beq_iff_eq] at hc2
        subst hc2
        simp [clash] at this
      | A => simp [clash] at this
      | D _ _ => simp [clash] at hc2
      | H _ => simp [clash] at hc2
      | C _ _ => simp [clash] at hc2
      | N => simp [clash] at hc2
  | false =>
    refine (app_apart (hfx D ops.size) hκ).trans (TD_agree hfit ops.size fun j y hj hne hy => ?_)
    have hji : j = i := by
      by_cases e : j = i
      · exact e
      · simp [e] at hne
    subst hji
    rw [hx] at hy
    obtain rfl := Option.some.inj hy
    exact hκ

/-- What an operation looks at is as it was in the text's order. -/
theorem Drawn.sees {D : Nat → Bool} (hD : ∀ (j : Nat) (o : Oper) (e : Edge), D j = true → ops[j]? = some o → e ∈ o.after → Region.binds .any e = true → D e.on = true)
    {i : Nat} (hi : i < ops.size) (hDi : D i = false) {x : Ent} (hx : l[i]? = some x) {o : Oper} (ho : ops[i]? = some o)
    (hrd : ∀ e ∈ o.after, Region.binds .any e = true → D e.on = true) :
    Agree (x.rd ++ x.e.wr) x.F.st (TD l F.st D ops.size) ∧ ∀ t, (t ∈ o.looksAt ops ∨ o.dst = some t) → x.F.get t = RD ops l F D t ops.size := by
  have hfit := d.fits
  have hcl := d.closed hD
  have hD' : ∀ (j : Nat) (o' : Oper) (e : Edge), (D j || j == i) = true → ops[j]? = some o' → e ∈ o'.after → Region.binds .any e = true → (D e.on || e.on == i) = true := by
    intro j o' e hj ho' he hb
    by_cases e1 : j = i
    · subst e1
      rw [ho] at ho'
      obtain rfl := Option.some.inj ho'
      simp [hrd e he hb]
    · simp only [e1, beq_iff_eq, Bool.or_eq_true, or_false] at hj
      simp [hD j o' e hj ho' he hb]
  have hcl' := d.closed hD'
  have hF : frAt l F' i = x.F := by simp [frAt, hx]
  -- who differs: not ordered with this one
  have diff : ∀ j, j < ops.size → decide (j < i) ≠ D j → (j < i ∧ elder? ops j i = false) ∨ (i < j ∧ elder? ops i j = false) := by
    intro j hj hne
    rcases Nat.lt_or_ge j i with h | h
    · left
      refine ⟨h, ?_⟩
      cases he : elder? ops j i with
      | false => rfl
      | true =>
        have := hcl' i j (by simp) h he
        simp only [show j ≠ i by omega, beq_iff_eq, Bool.or_eq_true, or_false] at this
        simp [h, this] at hne
    · have hji : j ≠ i := by
        rintro rfl
        simp [hDi] at hne
      right
      refine ⟨by omega, ?_⟩
      cases he : elder? ops i j with
      | false => rfl
      | true =>
        have hDj : D j = true := by
          cases hq : D j with
          | true => rfl
          | false => simp [hq, Nat.not_lt.2 h] at hne
        have := hcl j i hDj (by omega) he
        rw [hDi] at this; cases this
  have hst0 : x.F.st = TD l F.st (fun _ => true) i := by rw [← hF]; exact d.st i (by omega)
  have hA : ∀ κ, agK (TD l F.st (fun j => decide (j < i)) ops.size) (TD l F.st (fun j => decide (j < i)) i) κ := fun κ =>
    TD_stop hfit i ops.size (by omega) (fun j y h1 _ h3 => by simp at h3; omega)
  have hA2 : TD l F.st (fun j => decide (j < i)) i = x.F.st := by
    rw [hst0]; exact TD_same i (fun j hj => by simp [hj])
  constructor
  · refine ⟨fun dd => ?_, fun κ hκ => ?_⟩
    · show shape x.F.st dd = shape _ dd
      rw [← hA2, shape_TD hfit, shape_TD hfit]
    · have h1 := (hA κ).symm
      rw [hA2] at h1
      refine h1.trans (TD_agree hfit ops.size fun j y hj hne hy => ?_)
      rcases diff j hj hne with ⟨h, he⟩ | ⟨h, he⟩
      · exact apart_hit (d.keys j i y x h hy hx he).1 hκ
      · exact apart_hit (d.keys i j x y h hx hy he).2 hκ
  · intro t ht
    rw [← hF, d.get t i (by omega)]
    have r1 : RD ops l F (fun _ => true) t i = RD ops l F (fun j => decide (j < i)) t i := RD_same i (fun j o' hj hne => by simp [hj] at hne)
    have r2 : ∀ k, i ≤ k → RD ops l F (fun j => decide (j < i)) t k = RD ops l F (fun j => decide (j < i)) t i := by
      intro k
      induction k with
      | zero => intro hk; obtain rfl : i = 0 := by omega
                rfl
      | succ k ih =>
        intro hk
        rcases Nat.lt_or_ge k i with h | h
        · obtain rfl : i = k + 1 := by omega
          rfl
        · rw [← ih h]
          simp only [RD]
          cases ops[k]? <;> cases l[k]? <;> simp [Nat.not_lt.2 h]
    rw [r1, ← r2 ops.size (by omega)]
    refine RD_same ops.size fun j o' hj hne ho' hdst => ?_
    rcases diff j hj hne with ⟨h, he⟩ | ⟨h, he⟩
    · obtain ⟨s1, s2, s3⟩ := Oper.apart_spec (d.tmps j i o' o h ho' ho he)
      rcases ht with ht | ht
      · exact s1 t hdst ht
      · exact s2 t hdst ht
    · obtain ⟨s1, s2, s3⟩ := Oper.apart_spec (d.tmps i j o o' h ho ho' he)
      rcases ht with ht | ht
      · exact s3 t hdst ht
      · exact s2 t ht hdst

theorem Drawn.writes {D : Nat → Bool} (hD : ∀ (j : Nat) (o : Oper) (e : Edge), D j = true → ops[j]? = some o → e ∈ o.after → Region.binds .any e = true → D e.on = true)
    {i : Nat} (hi : i < ops.size) (hDi : D i = false) {x : Ent} (hx : l[i]? = some x) {o : Oper} (ho : ops[i]? = some o) (t : Nat) :
    RD ops l F (fun j => D j || j == i) t ops.size = if o.dst = some t then x.r else RD ops l F D t ops.size := by
  have hcl := d.closed hD
  by_cases hd : o.dst = some t
  · rw [if_pos hd]
    have key : ∀ k, i < k → k ≤ ops.size → RD ops l F (fun j => D j || j == i) t k = x.r := by
      intro k
      induction k with
      | zero => intro h; omega
      | succ k ih =>
        intro hk hks
        simp only [RD]
        rcases Nat.lt_or_ge i k with h | h
        · have ih' := ih h (by omega)
          have hok : k < ops.size := by omega
          simp only [Array.getElem?_eq_getElem hok]
          cases hlk : l[k]? with
          | none => exact ih'
          | some y =>
            simp only
            by_cases hDk : D k = true
            · have he : elder? ops i k = false := by
                cases hq : elder? ops i k with
                | false => rfl
                | true => have := hcl k i hDk h hq; rw [hDi] at this; cases this
              obtain ⟨s1, s2, s3⟩ := Oper.apart_spec (d.tmps i k o ops[k] h ho (by simp [hok]) he)
              have hne : (ops[k].dst == some t) = false := by simpa using s2 t hd
              simp [hne, ih']
            · simp [hDk, show k ≠ i by omega, ih']
        · obtain rfl : k = i := by omega
          simp [ho, hx, hd]
    exact key ops.size hi (Nat.le_refl _)
  · rw [if_neg hd]
    refine RD_same ops.size fun j o' hj hne ho' => ?_
    have hji : j = i := by
      by_cases e : j = i
      · exact e
      · simp [e] at hne
    subst hji
    rw [ho] at ho'
    obtain rfl := Option.some.inj ho'
    exact hd
end
end Go.Pvm
