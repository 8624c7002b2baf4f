/-
  A part of the proof: Pv11.
-/
import Derived.Test.YtmjnfdjhaopeiaaGreatDoorPv10
/-
  PVM, part 11: code.
-/
namespace Go.Pvm
open Go

structure FOK (C : Cfg) (E0 E : Env) (F : Fr) (a : Act) : Prop where
  S : E.S = F.st.S
  L : E.L = F.st.L
  inv : Inv E
  ext : Ext E0 E
  glob : Glob C E
  size : F.nt ≤ a.tmps.size
  defers : a.defers = []
  regs : ∀ t, V E (F.get t) (a.tmps.getD t undef)

theorem FOK.ev {C : Cfg} {E0 E : Env} {F : Fr} {a : Act} (h : FOK C E0 E F a) (x : Operand) : V E (F.ev C x) (a.eval x) := by
  cases x with
  | tmp t => exact h.regs t
  | const v => exact W_ofVal E v
  | global g =>
    simp only [Fr.ev]
    split
    · rename_i cs hg
      exact W_of_Vp (.cel cs 0) _ (h.glob g cs hg)
    · trivial
  | func f => exact ⟨[], [], rfl, rfl, rfl⟩

theorem get_set (F : Fr) (d : Nat) (p : RV) (t : Nat) : (F.set d p).get t = if d = t then p else F.get t := by
  simp only [Fr.get, Fr.set, look]
  by_cases h : d = t
  · simp [h]
  · simp [h]

theorem getD_set (a : Array Value) (d : Nat) (v : Value) (t : Nat) (h : d < a.size) : (a.setIfInBounds d v).getD t undef = if d = t then v else a.getD t undef := by
  simp only [Array.getD_eq_getD_getElem?, Array.getElem?_setIfInBounds]
  by_cases e : d = t
  · subst e; simp [h]
  · simp [e]

/-- A register gets a value. -/
theorem FOK.seto {C : Cfg} {E0 E : Env} {F : Fr} {a : Act} (h : FOK C E0 E F a) (dst : Option Nat) (hd : (dst.any fun d => F.nt ≤ d) = false) {p : RV} {v : Value} (hv : V E p v) :
    FOK C E0 E (F.seto dst p) (a.put dst v) := by
  cases dst with
  | none => exact h
  | some d =>
    have hlt : d < a.tmps.size := by have := h.size; simp at hd; omega
    refine ⟨h.S, h.L, h.inv, h.ext, h.glob, by show F.nt ≤ (a.tmps.setIfInBounds d v).size; simpa using h.size, h.defers, fun t => ?_⟩
    show V E ((F.set d p).get t) ((a.tmps.setIfInBounds d v).getD t undef)
    rw [get_set, getD_set _ _ _ _ hlt]
    by_cases e : d = t
    · simpa [e] using hv
    · simpa [e] using h.regs t

theorem look_map {α β : Type} (g : α → β) (l : List (Nat × α)) (t : Nat) : look (l.map fun x => (x.1, g x.2)) t = (look l t).map g := by
  induction l with
  | nil => rfl
  | cons x r ih =>
    obtain ⟨k, y⟩ := x
    simp only [List.map_cons, look]
    by_cases h : k = t
    · simp [h]
    · simp [h, ih]

theorem FOK.after {C : Cfg} {E0 E E' : Env} {F : Fr} {a : Act} (h : FOK C E0 E F a) (dst : Option Nat) (hd : (dst.any fun d => F.nt ≤ d) = false) {p : RV} {v : Value} {T : LS} {sc : Option Nat}
    (hS : E'.S = T.S) (hL : E'.L = T.L) (hm : Moves sc E E') (hv : V E' p v) : FOK C E0 E' (F.after dst p T sc) (a.put dst v) := by
  have h1 : FOK C E0 E' (F.after none p T sc) a := by
    refine ⟨hS, hL, hm.inv, h.ext.trans hm.ext, h.glob.ext h.inv hm.ext, h.size, h.defers, fun t => ?_⟩
    have hr := h.regs t
    cases sc with
    | none => exact hm.v _ _ hr (fun d off e => by cases e)
    | some d =>
      simp only [Fr.after, Fr.seto, Fr.get, scrub, look_map] at hr ⊢
      cases hlk : look F.regs t with
      | none => exact trivial
      | some r =>
        simp only [hlk, Option.map_some, Option.getD_some] at hr ⊢
        cases r with
        | v p => exact hm.v _ _ hr (fun d off _ e => (by cases e))
        | loc d' off =>
          simp only [scrubR]
          by_cases e : d' = d
          · rw [if_pos e]; trivial
          · rw [if_neg e]
            exact hm.v _ _ hr (fun d2 off2 e2 e3 => by cases e2; cases e3; exact e rfl)
  have h2 : FOK C E0 E' ((F.after none p T sc).seto dst p) (a.put dst v) := FOK.seto h1 dst hd hv
  exact h2

theorem wanted_sound {C : Cfg} {E0 E : Env} {F : Fr} {a : Act} (h : FOK C E0 E F a) {ops : Array Oper} {o : Oper} {b : Bool} (hw : wantedO ops o F = some b) :
    Region.wanted o (yielded ops a.tmps) = b := by
  unfold wantedO at hw
  unfold Region.wanted
  split at hw
  · rename_i hg
    obtain rfl := Option.some.inj hw
    rw [hg]
  · rename_i j want hg
    rw [hg]
    split at hw
    · rename_i d hd
      split at hw
      · rename_i b' hb
        obtain rfl := Option.some.inj hw
        have hr := h.regs d
        rw [hb] at hr
        have hr' : a.tmps.getD d undef = .bool b' := hr
        have ht : a.tmps[d]? = some (.bool b') := by
          rw [Array.getD_eq_getD_getElem?] at hr'
          cases hq : a.tmps[d]? with
          | none => rw [hq] at hr'; cases hr'
          | some u => rw [hq] at hr'; simp at hr'; rw [hr']
        simp [yielded, hd, ht]
      · rename_i u hb
        obtain rfl := Option.some.inj hw
        have hr := h.regs d
        rw [hb] at hr
        have hr' : a.tmps.getD d undef = .tuple u := hr
        rw [Array.getD_eq_getD_getElem?] at hr'
        cases hq : a.tmps[d]? with
        | none => simp [yielded, hd, hq]
        | some u' => rw [hq] at hr'; simp at hr'; simp [yielded, hd, hq, hr']
      · cases hw
    · cases hw

section
variable {C : Cfg} {call : FuncId → List PV → Store → Option (PV × Store)} {f : FuncId}

theorem runOps_sound (hcall : CallOK C call) {ops : Array Oper} {E0 : Env} {Q : Exit → Act → World → Prop} :
    ∀ (l : List Nat) (F F' : Fr) (E : Env) (a : Act), FOK C E0 E F a → runOps C call f ops l F = some F' →
      (∀ E' a', FOK C E0 E' F' a' → Q .normal a' E'.w) → wpOps C.P ops Q l a E.w
  | [], F, F', E, a, h, hr, hq => by
    simp only [runOps] at hr
    obtain rfl := Option.some.inj hr
    exact hq E a h
  | i :: l, F, F', E, a, h, hr, hq => by
    simp only [runOps] at hr
    simp only [wpOps]
    cases ho : ops[i]? with
    | none => rw [ho] at hr; exact runOps_sound hcall l F F' E a h hr hq
    | some o =>
      simp only [ho] at hr ⊢
      split at hr
      · cases hr
      · rename_i hd
        have hd' : (o.dst.any fun d => F.nt ≤ d) = false := by simpa using hd
        cases hw : wantedO ops o F with
        | none => rw [hw] at hr; cases hr
        | some b =>
          rw [wanted_sound h hw]
          cases b with
          | false =>
            simp only [hw] at hr
            simp only [Bool.false_eq_true, if_false]
            exact runOps_sound hcall l _ F' E _ (h.seto o.dst hd' (p := .v (.s undef)) rfl) hr hq
          | true =>
            simp only [hw] at hr
            simp only [if_true]
            left
            split at hr
            · rename_i p T sc he
              refine evalOp_sound hcall he h.S h.L h.inv h.glob (fun x _ => h.ev x) _ _ fun v E' hS hL hm hv => ?_
              exact runOps_sound hcall l _ F' E' _ (h.after o.dst hd' hS hL hm hv) hr hq
            · cases hr

/-- Fewer locals. -/
theorem drop_locals {E : Env} (h : Inv E) (L' : List (Nat × List PV)) (hl : ∀ d cs, look L' d = some cs → look E.L d = some cs) : Ext E { E with L := L' } ∧ Inv { E with L := L' } := by
  have hmod : ∀ k, Mod { E with L := L' } k → Mod E k := by
    intro k hm
    rcases hm with ⟨b, bx, hb, hk⟩ | ⟨d, cs, hd, rfl⟩
    · exact .inl ⟨b, bx, hb, hk⟩
    · exact .inr ⟨d, cs, hl d cs hd, rfl⟩
  have hext : Ext E { E with L := L' } := ⟨rfl, rfl, rfl, Nat.le_refl _, fun _ _ _ => rfl, fun _ h => h, fun _ h => .inl h, fun k hk => .inr (hmod k hk), Nat.le_refl _,
    fun _ bx' _ h => ⟨bx', h, fun _ => ⟨rfl, rfl, rfl⟩, Nat.le_refl _⟩⟩
  have hle := hext.le h
  refine ⟨hext, fun k hk => ⟨(h.gam k hk).1, fun hm => (h.gam k hk).2 (hmod k hm)⟩, fun b bx hb => ?_, h.inj, fun d cs hd => (h.loc d cs (hl d cs hd)).mono hle rfl,
    fun d d' cs cs' hd hd' => h.linj d d' cs cs' (hl d cs hd) (hl d' cs' hd'), fun b bx d cs hb hd => h.apart b bx d cs hb (hl d cs hd)⟩
  obtain ⟨h1, h2, h3, h4⟩ := h.box b bx hb
  exact ⟨h1, h2, fun k hk => (h3 k hk).mono hle rfl, h4⟩

theorem look_filter {α : Type} (q : Nat → Bool) (l : List (Nat × α)) (d : Nat) : look (l.filter fun x => q x.1) d = if q d then look l d else none := by
  induction l with
  | nil => simp [look]
  | cons x r ih =>
    obtain ⟨k, y⟩ := x
    simp only [List.filter_cons]
    by_cases hk : q k = true
    · rw [if_pos hk]
      simp only [look]
      by_cases e : k = d
      · subst e; simp [hk]
      · simp [e, ih]
    · rw [if_neg hk, ih]
      simp only [look]
      by_cases e : k = d
      · subst e; simp [hk]
      · simp [e]

theorem look_keep (ks : List Nat) (g : Nat → RV) (t : Nat) : look (ks.map fun t => (t, g t)) t = if t ∈ ks then some (g t) else none := by
  induction ks with
  | nil => simp [look]
  | cons k r ih =>
    simp only [List.map_cons, look]
    by_cases e : k = t
    · subst e; simp
    · simp [e, ih, Ne.symm e]

theorem FOK.clear {E0 E : Env} {F : Fr} {a : Act} (h : FOK C E0 E F a) : ∃ E', E'.w = E.w ∧ FOK C E0 E' (F.clear C f) a := by
  let regs := (C.keep f).map fun t => (t, F.get t)
  let q : Nat → Bool := fun d => regs.any fun y => leads d y.2
  have hlk : ∀ d cs, look (F.st.L.filter fun x => q x.1) d = some cs → look E.L d = some cs := by
    intro d cs hd
    rw [look_filter] at hd
    rw [h.L]
    by_cases hq : q d = true
    · rwa [if_pos hq] at hd
    · rw [if_neg hq] at hd; cases hd
  obtain ⟨h1, h2⟩ := drop_locals h.inv _ hlk
  refine ⟨{ E with L := F.st.L.filter fun x => q x.1 }, rfl, h.S, rfl, h2, h.ext.trans h1, h.glob.ext h.inv h1, h.size, h.defers, fun t => ?_⟩
  show V _ ((look regs t).getD (.v .any)) _
  rw [look_keep]
  by_cases ht : t ∈ C.keep f
  · rw [if_pos ht, Option.getD_some]
    have hr := h.regs t
    cases hg : F.get t with
    | v p => rw [hg] at hr; exact W.mono (h1.le h.inv) _ _ hr
    | loc d off =>
      rw [hg] at hr
      obtain ⟨cs, g1, g2⟩ := hr
      refine ⟨cs, ?_, g2⟩
      show look (F.st.L.filter fun x => q x.1) d = some cs
      rw [look_filter, if_pos, ← h.L]
      · exact g1
      · simp only [q, regs, List.any_map, List.any_eq_true]
        exact ⟨t, ht, by simp [hg, leads]⟩
  · rw [if_neg ht]; trivial

end
end Go.Pvm
