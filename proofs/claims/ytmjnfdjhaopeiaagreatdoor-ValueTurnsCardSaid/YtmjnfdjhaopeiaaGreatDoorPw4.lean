/-
  A part of the proof: Pw4.
-/
import Derived.Test.YtmjnfdjhaopeiaaGreatDoorPw3
/-
  PVM: a region whose order is open is sound.
-/
namespace Go.Pvm
open Go

/-- What holds in the midst of such a region. -/
structure Mid (C : Cfg) (E0 E : Env) (ops : Array Oper) (l : List Ent) (F : Fr) (D : Nat → Bool) (a : Act) : Prop where
  S : E.S = (TD l F.st D ops.size).S
  L : E.L = (TD l F.st D ops.size).L
  inv : Inv E
  ext : Ext E0 E
  glob : Glob C E
  size : F.nt ≤ a.tmps.size
  defers : a.defers = []
  regs : ∀ t, V E (RD ops l F D t ops.size) (a.tmps.getD t undef)
  closed : ∀ (j : Nat) (o : Oper) (e : Edge), D j = true → ops[j]? = some o → e ∈ o.after → Region.binds .any e = true → D e.on = true

theorem put_getD {a : Act} {dst : Option Nat} {v : Value} {n : Nat} (hn : n ≤ a.tmps.size) (hd : (dst.any fun d => n ≤ d) = false) (t : Nat) :
    (a.put dst v).tmps.getD t undef = if dst = some t then v else a.tmps.getD t undef := by
  cases dst with
  | none => rfl
  | some d =>
    have hlt : d < a.tmps.size := by simp at hd; omega
    show (a.tmps.setIfInBounds d v).getD t undef = _
    rw [getD_set _ _ _ _ hlt]
    by_cases e : d = t
    · simp [e]
    · simp [e]

theorem put_size (a : Act) (dst : Option Nat) (v : Value) : (a.put dst v).tmps.size = a.tmps.size := by cases dst <;> simp [Act.put]
theorem put_defers (a : Act) (dst : Option Nat) (v : Value) : (a.put dst v).defers = a.defers := by cases dst <;> rfl

section
variable {C : Cfg} {rn : FuncId → List PV → Store → Option (PV × Store)} {f : FuncId} {ops : Array Oper} {F F' : Fr} {l : List Ent} {E0 : Env} {Q : Exit → Act → World → Prop}

theorem Mid.ends (d : Drawn C rn f ops F F' l) {E : Env} {D : Nat → Bool} {a : Act} (h : Mid C E0 E ops l F D a) (hall : ∀ j, j < ops.size → D j = true) : FOK C E0 E F' a := by
  have hF : frAt l F' ops.size = F' := by
    unfold frAt
    rw [List.getElem?_eq_none (by rw [d.len]; exact Nat.le_refl _)]
  have hst : F'.st = TD l F.st D ops.size := by
    rw [← hF, d.st ops.size (Nat.le_refl _)]
    exact TD_same ops.size (fun j hj => (hall j hj).symm)
  refine ⟨by rw [hst]; exact h.S, by rw [hst]; exact h.L, h.inv, h.ext, h.glob, by rw [d.nt]; exact h.size, h.defers, fun t => ?_⟩
  have hr := h.regs t
  have : F'.get t = RD ops l F D t ops.size := by
    rw [← hF, d.get t ops.size (Nat.le_refl _)]
    exact RD_same ops.size (fun j o hj hne => absurd (hall j hj).symm hne)
  rw [this]; exact hr

theorem wp_next {P : Program} {o : Oper} {a : Act} {w : World} {K K' : Act → World → Prop} {Q : Exit → Act → World → Prop} (h : o.wp P a w K Q) (hk : ∀ a w, K a w → K' a w) : o.wp P a w K' Q :=
  Oper.wp_mono hk h

theorem binds_of_any (md : Region.Mode) (e : Edge) (h : Region.binds .any e = true) : Region.binds md e = true := by
  unfold Region.binds at h ⊢
  cases hg : e.ground <;> rw [hg] at h <;> first | rfl | (cases h)

theorem drawn_any (d : Drawn C rn f ops F F' l) (hcall : CallOK C (callF C rn)) {md : Region.Mode}
    (hrk : ∃ rank : Nat → Nat, ∀ (j : Nat) (o : Oper) (e : Edge), ops[j]? = some o → e ∈ o.after → Region.binds md e = true → e.on < ops.size ∧ rank e.on < rank j) (hq : ∀ E' a', FOK C E0 E' F' a' → Q .normal a' E'.w) :
    ∀ (fuel : Nat) (listed : Array Bool) (U : List Nat) (E : Env) (a : Act), listed.size = ops.size → U.length ≤ fuel →
      (∀ j, j < ops.size → listed.getD j false = false → j ∈ U) → Mid C E0 E ops l F (fun j => listed.getD j false) a →
      wpAny C.P md ops Q fuel listed a E.w := by
  have hnone : ∀ (listed : Array Bool) (E : Env) (a : Act), listed.size = ops.size → Mid C E0 E ops l F (fun j => listed.getD j false) a →
      Region.ready md ops listed = [] → Q .normal a E.w := by
    intro listed E a hsz hm hr
    refine hq E a (hm.ends d ?_)
    obtain ⟨rank, hrank⟩ := hrk
    have key : ∀ n j, rank j < n → j < ops.size → listed.getD j false = true := by
      intro n
      induction n with
      | zero => intro j h; omega
      | succ n ih =>
      intro j hjn hj
      cases hl : listed.getD j false with
      | true => rfl
      | false =>
        exfalso
        have hmem : j ∈ Region.ready md ops listed := by
          refine mem_ready.2 ⟨?_, ops[j], by simp [hj], fun e he hb => ?_⟩
          · have : j < listed.size := by omega
            simp only [Array.getD_eq_getD_getElem?, Array.getElem?_eq_getElem this, Option.getD_some] at hl ⊢
            exact hl
          · obtain ⟨h1, h2⟩ := hrank j ops[j] e (by simp [hj]) he hb
            exact ih e.on (by omega) h1
        rw [hr] at hmem; cases hmem
    exact fun j hj => key (rank j + 1) j (by omega) hj
  intro fuel
  induction fuel with
  | zero =>
    intro listed U E a hsz hU hcov hm
    have hall : ∀ j, j < ops.size → listed.getD j false = true := by
      intro j hj
      cases hl : listed.getD j false with
      | true => rfl
      | false =>
        have := hcov j hj hl
        have hU0 : U = [] := List.eq_nil_of_length_eq_zero (by omega)
        rw [hU0] at this; cases this
    have hr : Region.ready md ops listed = [] := by
      apply List.eq_nil_iff_forall_not_mem.2
      intro j hj
      obtain ⟨h1, o, ho, _⟩ := mem_ready.1 hj
      have hjl : j < ops.size := (Array.getElem?_eq_some_iff.1 ho).1
      have := hall j hjl
      have hjs : j < listed.size := by omega
      simp only [Array.getD_eq_getD_getElem?, Array.getElem?_eq_getElem hjs, Option.getD_some] at h1 this
      rw [this] at h1; cases h1
    exact ⟨hr, hnone listed E a hsz hm hr⟩
  | succ fuel ih =>
    intro listed U E a hsz hU hcov hm
    refine ⟨hnone listed E a hsz hm, fun i hir => ?_⟩
    obtain ⟨h1, o, ho, hrd0⟩ := mem_ready.1 hir
    have hrd : ∀ e ∈ o.after, Region.binds .any e = true → listed.getD e.on false = true := fun e he hb => hrd0 e he (binds_of_any md e hb)
    have hi : i < ops.size := (Array.getElem?_eq_some_iff.1 ho).1
    have his : i < listed.size := by omega
    have hDi : listed.getD i false = false := by
      simp only [Array.getD_eq_getD_getElem?, Array.getElem?_eq_getElem his, Option.getD_some] at h1 ⊢
      exact h1
    have hx : i < l.length := by have := d.len; omega
    have hxs : l[i]? = some l[i] := by simp [hx]
    obtain ⟨hent, hdst, _⟩ := d.ent i o l[i] ho hxs
    obtain ⟨hag, hget⟩ := d.sees hm.closed hi hDi hxs ho hrd
    have hfun : (fun j => (listed.setIfInBounds i true).getD j false) = fun j => listed.getD j false || j == i := by
      funext j
      simp only [Array.getD_eq_getD_getElem?, Array.getElem?_setIfInBounds]
      by_cases e : i = j
      · subst e; simp [his]
      · simp [e, Ne.symm e]
    have hclosed' : ∀ (j : Nat) (o' : Oper) (e : Edge), (listed.getD j false || j == i) = true → ops[j]? = some o' → e ∈ o'.after → Region.binds .any e = true → (listed.getD e.on false || e.on == i) = true := by
      intro j o' e hj ho' he hb
      by_cases e1 : j = i
      · subst e1
        rw [ho] at ho'
        obtain rfl := Option.some.inj ho'
        simp [hrd e he hb]
      · simp only [e1, beq_iff_eq, Bool.or_eq_true, or_false] at hj
        have := hm.closed j o' e hj ho' he hb
        simp [this]
    -- behind it
    have after : ∀ (E' : Env) (v : Value), E'.S = (l[i].e.app (TD l F.st (fun j => listed.getD j false) ops.size)).S →
        E'.L = (l[i].e.app (TD l F.st (fun j => listed.getD j false) ops.size)).L → Moves none E E' → V E' l[i].r v →
        wpAny C.P md ops Q fuel (listed.setIfInBounds i true) (a.put o.dst v) E'.w := by
      intro E' v hS hL hmv hv
      have hal := d.more hm.closed hi hDi hxs
      have hst : Step E' { E' with S := (TD l F.st (fun j => listed.getD j false || j == i) ops.size).S, L := (TD l F.st (fun j => listed.getD j false || j == i) ops.size).L } :=
        Step.alike hmv.inv (fun b => by rw [hS]; exact hal.get b) (by rw [hS]; exact hal.next) (fun dd => by rw [hL]; exact hal.look dd)
      refine ih (listed.setIfInBounds i true) (U.erase i) { E' with S := (TD l F.st (fun j => listed.getD j false || j == i) ops.size).S, L := (TD l F.st (fun j => listed.getD j false || j == i) ops.size).L } (a.put o.dst v)
        (by simp [hsz]) ?_ ?_ ?_
      · have hin := hcov i hi hDi
        rw [List.length_erase_of_mem hin]
        omega
      · intro j hj hl
        rw [congrFun hfun j] at hl
        simp only [Bool.or_eq_false_iff, beq_eq_false_iff_ne] at hl
        exact (List.mem_erase_of_ne hl.2).2 (hcov j hj hl.1)
      · rw [hfun]
        refine ⟨rfl, rfl, hst.inv, (hm.ext.trans hmv.ext).trans hst.ext, (hm.glob.ext hm.inv hmv.ext).ext hmv.inv hst.ext, by rw [put_size]; exact hm.size, by rw [put_defers]; exact hm.defers, fun t => ?_, hclosed'⟩
        rw [d.writes hm.closed hi hDi hxs ho t, put_getD hm.size hdst]
        by_cases e : o.dst = some t
        · rw [if_pos e, if_pos e]; exact V.mono hmv.inv hst hv
        · rw [if_neg e, if_neg e]
          exact V.mono hmv.inv hst (hmv.v _ _ (hm.regs t) (fun _ _ e => by cases e))
    have hlook : ∀ t, t ∈ o.looksAt ops → V E (l[i].F.get t) (a.tmps.getD t undef) := fun t ht => by
      rw [hget t (.inl ht)]; exact hm.regs t
    have hwv : ∀ b, wantedO ops o l[i].F = some b → Region.wanted o (yielded ops a.tmps) = b := fun b hw => wanted_of hw (fun j want dd hg hd => hlook dd (by
      unfold Oper.looksAt
      rw [hg]
      simp only [hd]
      exact List.mem_append.2 (.inr (by simp))))
    unfold wpOp
    rw [ho]
    simp only
    rcases hent with ⟨hw, hr, he, hk⟩ | ⟨hw, T1, hev, heff⟩
    · rw [hwv false hw]
      simp only [Bool.false_eq_true, if_false]
      have := after E undef (by rw [he]; exact hm.S) (by rw [he]; exact hm.L) ((Step.refl hm.inv).moves hm.inv) (by rw [hr]; exact rfl)
      exact this
    · rw [hwv true hw]
      simp only [if_true]
      left
      have hev2 := evalOp_agree hev heff hag
      refine evalOp_sound hcall hev2 hm.S hm.L hm.inv hm.glob (fun x hxo => ?_) _ _ fun v E' hS hL hmv hv => after E' v hS hL hmv hv
      cases x with
      | tmp t =>
        refine hlook t ?_
        unfold Oper.looksAt
        exact List.mem_append.2 (.inl (List.mem_filterMap.2 ⟨.tmp t, hxo, rfl⟩))
      | const v => exact W_ofVal E v
      | global g =>
        simp only [Fr.ev]
        split
        · rename_i cs hg
          exact W_of_Vp (.cel cs 0) _ (hm.glob g cs hg)
        · trivial
      | func g => exact ⟨[], [], rfl, rfl, rfl⟩

theorem runDraw_sound (hcall : CallOK C (callF C rn)) {id : Nat} {E : Env} {a : Act} (h : FOK C E0 E F a) (hr : runDraw C (callF C rn) f ops F = some F')
    (hq : ∀ E' a', FOK C E0 E' F' a' → Q .normal a' E'.w) : (Code.region id ops true).wp C.P Q a E.w := by
  unfold runDraw at hr
  split at hr
  · rename_i hc
    simp only [Bool.and_eq_true] at hc
    obtain ⟨⟨hmix, hedge⟩, htmps⟩ := hc
    split at hr
    · rename_i l F1 htr
      split at hr
      · rename_i hkeys
        obtain rfl := Option.some.inj hr
        obtain ⟨g1, g2, g3, g4⟩ := trace_spec _ _ _ _ htr
        have hsz : l.length = ops.size := by simpa using g1
        have d : Drawn C rn f ops F F1 l := by
          refine ⟨hsz, g2, g3, fun i o x ho hx => g4 i o x (by simpa using ho) hx, fun j o e ho he hb => ?_, fun i j hij he => ?_, fun i j x y hij hx hy he => ?_, fun i j x y hij hx hy he => ?_⟩
          · have hj : j < ops.size := (Array.getElem?_eq_some_iff.1 ho).1
            have := List.all_eq_true.1 hedge j (List.mem_range.2 hj)
            rw [ho] at this
            simp only [Bool.and_eq_true] at this
            have h2 := Array.all_eq_true_iff_forall_mem.1 this.1 e he
            simpa [hb] using h2
          · have hj : j < ops.size := by
              rcases Nat.lt_or_ge j ops.size with h | h
              · exact h
              · exfalso
                have hbs : (Region.before ops).size = ops.size := by
                  unfold Region.before
                  have : ∀ (os : List Oper) (acc : Array Nat), (os.foldl (fun acc o => acc.push (o.after.foldl (fun s e => if Region.binds .any e then s ||| 2 ^ e.on ||| acc.getD e.on 0 else s) 0)) acc).size = acc.size + os.length := by
                    intro os
                    induction os with
                    | nil => intro acc; rfl
                    | cons o os ih => intro acc; rw [List.foldl_cons, ih]; simp; omega
                  rw [← Array.foldl_toList, this]; simp
                have : (elders ops).getD j 0 = 0 := by
                  unfold elders
                  rw [Array.getD_eq_getD_getElem?, Array.getElem?_eq_none (by omega)]; rfl
                simp [elder?, this] at he
            have := List.all_eq_true.1 hedge j (List.mem_range.2 hj)
            have ho : ops[j]? = some ops[j] := by simp [hj]
            rw [ho] at this
            simp only [Bool.and_eq_true] at this
            have h2 := List.all_eq_true.1 this.2 i (List.mem_range.2 hij)
            rw [he] at h2
            simp only [Bool.not_true, Bool.false_or] at h2
            obtain ⟨e, hem, heq⟩ := Array.any_eq_true'.1 h2
            simp only [Bool.and_eq_true, Bool.or_eq_true, beq_iff_eq, decide_eq_true_eq] at heq
            exact ⟨ops[j], e, ho, hem, heq.1, heq.2⟩
          · have hj : j < ops.size := (Array.getElem?_eq_some_iff.1 hy).1
            have := List.all_eq_true.1 (List.all_eq_true.1 htmps j (List.mem_range.2 hj)) i (List.mem_range.2 hij)
            rw [he, hx, hy] at this
            simpa using this
          · have hj : j < l.length := by
              rcases Nat.lt_or_ge j l.length with h | h
              · exact h
              · simp [List.getElem?_eq_none h] at hy
            have := List.all_eq_true.1 (List.all_eq_true.1 hkeys j (List.mem_range.2 hj)) i (List.mem_range.2 hij)
            rw [he, hx, hy] at this
            simpa using this
        refine wp_region_draw fun t => ?_
        have hsched : ∃ md t', Region.schedule (C.P.follows .mixedOrders) ops t = Region.linearise md ops t' ∧
            ∃ rank : Nat → Nat, ∀ (j : Nat) (o : Oper) (e : Edge), ops[j]? = some o → e ∈ o.after → Region.binds md e = true → e.on < ops.size ∧ rank e.on < rank j := by
          unfold Region.schedule
          have hany : ∃ rank : Nat → Nat, ∀ (j : Nat) (o : Oper) (e : Edge), ops[j]? = some o → e ∈ o.after → Region.binds .any e = true → e.on < ops.size ∧ rank e.on < rank j :=
            ⟨fun j => j, fun j o e ho he hb => by
              have h1 := d.lt j o e ho he hb
              have hj : j < ops.size := (Array.getElem?_eq_some_iff.1 ho).1
              exact ⟨by omega, h1⟩⟩
          have hrb : ∀ md, rankB md ops = true → ∃ rank : Nat → Nat, ∀ (j : Nat) (o : Oper) (e : Edge), ops[j]? = some o → e ∈ o.after → Region.binds md e = true → e.on < ops.size ∧ rank e.on < rank j := by
            intro md hb
            refine ⟨fun j => (Region.linearise md ops 0).idxOf j, fun j o e ho he hbd => ?_⟩
            have hj : j < ops.size := (Array.getElem?_eq_some_iff.1 ho).1
            have := List.all_eq_true.1 hb j (List.mem_range.2 hj)
            rw [ho] at this
            have h2 := Array.all_eq_true_iff_forall_mem.1 this e he
            simpa [hbd] using h2
          by_cases hc : (C.P.follows .mixedOrders || !Region.departs ops) = true
          · rw [if_pos hc]
            exact ⟨.any, t, rfl, hany⟩
          · rw [if_neg hc]
            have hmix' : rankB .text ops = true ∧ rankB .gc ops = true := by simpa [hc] using hmix
            split
            · exact ⟨.text, t / 2, rfl, hrb _ hmix'.1⟩
            · exact ⟨.gc, t / 2, rfl, hrb _ hmix'.2⟩
        obtain ⟨md, t', hs, hrk⟩ := hsched
        rw [hs]
        refine wpAny_sound ops.size t' _ a _ ?_
        have hrep : ∀ j, (Array.replicate ops.size false).getD j false = false := by
          intro j
          rw [Array.getD_eq_getD_getElem?, Array.getElem?_replicate]
          split <;> rfl
        have hst0 := Step.drew h.inv
        have hfun : (fun j => (Array.replicate ops.size false).getD j false) = fun _ => false := funext hrep
        have hT : ∀ k, TD l F.st (fun _ => false) k = F.st := by
          intro k
          induction k with
          | zero => rfl
          | succ k ih =>
            simp only [TD, Bool.false_eq_true, if_false]
            cases l[k]? <;> exact ih
        have hR : ∀ t k, RD ops l F (fun _ => false) t k = F.get t := by
          intro t k
          induction k with
          | zero => rfl
          | succ k ih =>
            simp only [RD, Bool.false_and, Bool.false_eq_true, if_false]
            cases ops[k]? <;> cases l[k]? <;> exact ih
        have hst1 : Mid C E0 { E with w := E.w.drew } ops l F (fun j => (Array.replicate ops.size false).getD j false) a := by
          rw [hfun]
          refine ⟨by rw [hT]; exact h.S, by rw [hT]; exact h.L, hst0.inv, h.ext.trans hst0.ext, h.glob.ext h.inv hst0.ext, h.size, h.defers, fun t => ?_, fun j o e hj => (by cases hj)⟩
          rw [hR]; exact V.mono h.inv hst0 (h.regs t)
        exact drawn_any (E0 := E0) d hcall hrk hq ops.size (Array.replicate ops.size false) (List.range ops.size) { E with w := E.w.drew } a (by simp) (by simp) (fun j hj _ => List.mem_range.2 hj) hst1
      · cases hr
    · cases hr
  · cases hr
end
end Go.Pvm
