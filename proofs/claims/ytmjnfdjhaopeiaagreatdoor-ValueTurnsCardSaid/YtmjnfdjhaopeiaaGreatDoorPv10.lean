/-
  A part of the proof: Pv10.
-/
import Derived.Test.YtmjnfdjhaopeiaaGreatDoorPv9
/-
  PVM, part 10: an operation.
-/
namespace Go.Pvm
open Go

def Glob (C : Cfg) (E : Env) : Prop := ∀ g cs, C.glob g = some cs → Vp E.w E.G (.cel cs 0) (.pointer (some ⟨g, 0, none⟩))

theorem Glob.ext {C : Cfg} {E E' : Env} (h : Glob C E) (hi : Inv E) (he : Ext E E') : Glob C E' :=
  fun g cs hg => Vp.mono (he.le hi).g _ _ (h g cs hg)

def CallPost (E : Env) (r : PV) (S' : Store) : Ending → World → Prop := fun e w' =>
  ∃ v E', e = .returned v ∧ E'.w = w' ∧ E'.S = S' ∧ E'.L = [] ∧ Ext E E' ∧ Inv E' ∧ W E' r v

def CallOK (C : Cfg) (call : FuncId → List PV → Store → Option (PV × Store)) : Prop :=
  ∀ g args S r S', call g args S = some (r, S') → ∀ E : Env, E.S = S → E.L = [] → Inv E → Glob C E → ∀ vs, WL E args vs →
    (∃ fn, C.P.funcs[g]? = some fn ∧ fn.body.isSome = true ∧ fn.name ≠ "runtime.NumGoroutine") ∧ Calls C.P g vs.toArray E.w (CallPost E r S')

/-- The frame's locals stand aside while a call runs. -/
theorem Inv.aside {E : Env} (h : Inv E) : Inv { E with L := [] } := by
  have hmod : ∀ k, Mod { E with L := [] } k → Mod E k := by
    intro k hm
    rcases hm with ⟨b, bx, hb, hk⟩ | ⟨d, cs, hd, _⟩
    · exact .inl ⟨b, bx, hb, hk⟩
    · cases hd
  have hle : Le E { E with L := [] } := ⟨fun _ hk => ⟨hk, rfl⟩, Nat.le_refl _, fun _ bx' _ hx => ⟨bx', hx, fun _ => ⟨rfl, rfl, rfl⟩, Nat.le_refl _⟩⟩
  refine ⟨fun k hk => ⟨(h.gam k hk).1, fun hm => (h.gam k hk).2 (hmod k hm)⟩, fun b bx hb => ?_, h.inj, fun d cs hd => (by cases hd), fun d d' cs cs' hd => (by cases hd), fun b bx d cs hb hd => (by cases hd)⟩
  obtain ⟨h1, h2, h3, h4⟩ := h.box b bx hb
  exact ⟨h1, h2, fun k hk => (h3 k hk).mono hle rfl, h4⟩

theorem W.aside {E : Env} {p : PV} {v : Value} (h : W E p v) : W { E with L := [] } p v :=
  W.mono (E := E) (E' := { E with L := [] }) ⟨fun _ hk => ⟨hk, rfl⟩, Nat.le_refl _, fun _ bx' _ hx => ⟨bx', hx, fun _ => ⟨rfl, rfl, rfl⟩, Nat.le_refl _⟩⟩ p v h

theorem Step.called {E E1 : Env} (hI : Inv E) (he : Ext { E with L := [] } E1) (h1 : Inv E1) (_hL : E1.L = []) : Step E { E1 with L := E.L, l := E.l } := by
  have hm0 : ∀ k, Mod { E with L := [] } k → Mod E k := by
    intro k hm
    rcases hm with ⟨b, bx, hb, hk⟩ | ⟨d, cs, hd, _⟩
    · exact .inl ⟨b, bx, hb, hk⟩
    · cases hd
  have hm1 : ∀ b bx k, E1.S.get b = some bx → E1.sg b = some k → E.w.heap.size ≤ k ∨ Mod { E with L := [] } k := fun b bx k hb hk => he.mod k (.inl ⟨b, bx, hb, hk⟩)
  have hlm : ∀ d cs, look E.L d = some cs → ¬ Mod { E with L := [] } (E.l d) := by
    intro d cs hd hm
    rcases hm with ⟨b, bx, hb, hk⟩ | ⟨d', cs', hd', _⟩
    · exact hI.apart b bx d cs hb hd hk
    · cases hd'
  have hext : Ext E { E1 with L := E.L, l := E.l } := by
    refine ⟨he.os, he.tape, he.output, he.size, fun k hk hm => he.keep k hk (fun h => hm (hm0 k h)), he.gle, fun k hk => ?_, fun k hm => ?_, he.next, he.s⟩
    · rcases he.gam k hk with a | a | a
      · exact .inl a
      · exact .inr (.inl a)
      · exact .inr (.inr (hm0 k a))
    · rcases hm with ⟨b, bx, hb, hk⟩ | ⟨d, cs, hd, rfl⟩
      · exact (hm1 b bx k hb hk).imp id (hm0 k)
      · exact .inr (.inr ⟨d, cs, hd, rfl⟩)
  have hle := hext.le hI
  have hle1 : Le E1 { E1 with L := E.L, l := E.l } := ⟨fun _ hk => ⟨hk, rfl⟩, Nat.le_refl _, fun _ bx' _ hx => ⟨bx', hx, fun _ => ⟨rfl, rfl, rfl⟩, Nat.le_refl _⟩⟩
  refine ⟨hext, ⟨fun k hk => ⟨(h1.gam k hk).1, fun hm => ?_⟩, fun b bx hb => ?_, h1.inj, fun d cs hd => ?_, hI.linj, fun b bx d cs hb hd hk => ?_⟩, fun d cs hd => ⟨⟨cs, hd⟩, rfl⟩⟩
  · rcases hm with ⟨b, bx, hb, hk'⟩ | ⟨d, cs, hd, rfl⟩
    · exact (h1.gam k hk).2 (.inl ⟨b, bx, hb, hk'⟩)
    · have hlt := (hI.loc d cs hd).lt
      rcases he.gam _ hk with a | a | a
      · exact (hI.gam _ a).2 (.inr ⟨d, cs, hd, rfl⟩)
      · exact absurd a (by have : E.w.heap.size = ({ E with L := [] } : Env).w.heap.size := rfl; show ¬ (E.w.heap.size ≤ E.l d); omega)
      · exact hlm d cs hd a
  · obtain ⟨g1, g2, g3, g4⟩ := h1.box b bx hb
    exact ⟨g1, g2, fun k hk => (g3 k hk).mono hle1 rfl, g4⟩
  · exact (hI.loc d cs hd).mono hle (he.keep _ (hI.loc d cs hd).lt (hlm d cs hd))
  · have hlt := (hI.loc d cs hd).lt
    rcases hm1 b bx _ hb hk with a | a
    · have a' : E.w.heap.size ≤ E.l d := a
      omega
    · exact hlm d cs hd a

/-- What an operation comes to. -/
def OpRes (P : Program) (o : Oper) (a : Act) (E : Env) (r : RV) (T' : LS) (sc : Option Nat) : Prop :=
  ∀ (next : Act → World → Prop) (Q : Exit → Act → World → Prop),
    (∀ v E', E'.S = T'.S → E'.L = T'.L → Moves sc E E' → V E' r v → next (a.put o.dst v) E'.w) → o.wp P a E.w next Q

section
variable {P : Program} {o : Oper} {a : Act} {E : Env} {T T' : LS}

theorem res_val {E' : Env} {r : RV} {sc : Option Nat} {v : Value} (h : (execOp a.eval o).run P E.w = .ok (.value v) E'.w) (hS : E'.S = T'.S) (hL : E'.L = T'.L) (hm : Moves sc E E') (hv : V E' r v) :
    OpRes P o a E r T' sc := by
  intro next Q hn
  unfold Oper.wp
  rw [h, Oper.upon_value]
  exact hn v E' hS hL hm hv

theorem res_skip {E' : Env} {sc : Option Nat} (h : (execOp a.eval o).run P E.w = .ok .skip E'.w) (hS : E'.S = T'.S) (hL : E'.L = T'.L) (hm : Moves sc E E') :
    OpRes P o a E (.v .any) T' sc := by
  intro next Q hn
  unfold Oper.wp
  rw [h, Oper.upon_skip]
  exact hn undef E' hS hL hm trivial

/-- An operation that only computes. -/
theorem res_pure {x : Option PV} {r : RV} {sc : Option Nat} {s : Sem Value} (hS : E.S = T.S) (hL : E.L = T.L) (hI : Inv E)
    (h : (x.map fun p => ((RV.v p, T, none) : RV × LS × Option Nat)) = some (r, T', sc)) (he : execOp a.eval o = (do pure (.value (← s))))
    (hs : ∀ p, x = some p → ∃ v, s.run P E.w = .ok v E.w ∧ W E p v) : OpRes P o a E r T' sc := by
  obtain ⟨p, hp, h2⟩ := Option.map_eq_some_iff.1 h
  obtain ⟨rfl, h3⟩ := Prod.mk.inj h2
  obtain ⟨rfl, rfl⟩ := Prod.mk.inj h3
  obtain ⟨v, h4, h5⟩ := hs p hp
  exact res_val (E' := E) (v := v) (by rw [he]; simp [h4]) hS hL ((Step.refl hI).moves hI) h5

/-- An operation that computes, and turns the boxes. -/
theorem res_both {x : Option (PV × LS)} {r : RV} {sc : Option Nat} {s : Sem Value} (hI : Inv E)
    (h : (x.map fun p => ((RV.v p.1, p.2, none) : RV × LS × Option Nat)) = some (r, T', sc)) (he : execOp a.eval o = (do pure (.value (← s))))
    (hs : ∀ p T1, x = some (p, T1) → ∃ v E', s.run P E.w = .ok v E'.w ∧ Step E E' ∧ E'.S = T1.S ∧ E'.L = T1.L ∧ W E' p v) : OpRes P o a E r T' sc := by
  obtain ⟨⟨p, T1⟩, hp, h2⟩ := Option.map_eq_some_iff.1 h
  obtain ⟨rfl, h3⟩ := Prod.mk.inj h2
  obtain ⟨rfl, rfl⟩ := Prod.mk.inj h3
  obtain ⟨v, E', h4, h5, h6, h7, h8⟩ := hs p _ hp
  exact res_val (E' := E') (v := v) (by rw [he]; simp [h4]) h6 h7 (h5.moves hI) h8

theorem res_rv {x : Option RV} {r : RV} {sc : Option Nat} {s : Sem Value} (hS : E.S = T.S) (hL : E.L = T.L) (hI : Inv E)
    (h : (x.map fun p => ((p, T, none) : RV × LS × Option Nat)) = some (r, T', sc)) (he : execOp a.eval o = (do pure (.value (← s))))
    (hs : ∀ p, x = some p → ∃ v, s.run P E.w = .ok v E.w ∧ V E p v) : OpRes P o a E r T' sc := by
  obtain ⟨p, hp, h2⟩ := Option.map_eq_some_iff.1 h
  obtain ⟨rfl, h3⟩ := Prod.mk.inj h2
  obtain ⟨rfl, rfl⟩ := Prod.mk.inj h3
  obtain ⟨v, h4, h5⟩ := hs p hp
  exact res_val (E' := E) (v := v) (by rw [he]; simp [h4]) hS hL ((Step.refl hI).moves hI) h5
end

theorem WL_ops {E : Env} {ρ : Operand → RV} {a : Act} : ∀ (xs : List Operand), (∀ x ∈ xs, V E (ρ x) (a.eval x)) → WL E (xs.map fun x => (ρ x).pv) (xs.map a.eval)
  | [], _ => rfl
  | x :: xs, h => ⟨_, _, rfl, W_pv (h x (by simp)), WL_ops xs (fun y hy => h y (by simp [hy]))⟩

theorem WParts_ops {E : Env} {ρ : Operand → RV} {a : Act} : ∀ (xs : List (Nat × Operand)), (∀ x ∈ xs, V E (ρ x.2) (a.eval x.2)) →
    WParts E (xs.map fun (i, x) => (i, (ρ x).pv)) (xs.map fun (i, x) => (i, a.eval x))
  | [], _ => trivial
  | (i, x) :: xs, h => ⟨rfl, W_pv (h (i, x) (by simp)), WParts_ops xs (fun y hy => h y (by simp [hy]))⟩

theorem OptW_map {E : Env} {ρ : Operand → RV} {a : Act} (x : Option Operand) (h : ∀ y, x = some y → V E (ρ y) (a.eval y)) : OptW E (x.map fun y => (ρ y).pv) (x.map a.eval) := by
  cases x with
  | none => trivial
  | some y => exact W_pv (h y rfl)

set_option maxHeartbeats 2000000 in
theorem evalOp_sound {C : Cfg} {call : FuncId → List PV → Store → Option (PV × Store)} {f : FuncId} {o : Oper} {ρ : Operand → RV} {T T' : LS} {r : RV} {sc : Option Nat} {E : Env} {a : Act}
    (hcall : CallOK C call) (h : evalOp C call f o ρ T = some (r, T', sc)) (hS : E.S = T.S) (hL : E.L = T.L) (hI : Inv E) (hG : Glob C E)
    (hρ : ∀ x ∈ o.op.operands.toList, V E (ρ x) (a.eval x)) : OpRes C.P o a E r T' sc := by
  unfold evalOp at h
  dsimp only at h
  cases hop : o.op <;> simp only [hop] at h hρ <;> try (cases h; done)
  case move x =>
    obtain ⟨rfl, h3⟩ := Prod.mk.inj (Option.some.inj h)
    obtain ⟨rfl, rfl⟩ := Prod.mk.inj h3
    exact res_val (E' := E) (by simp [execOp, hop]) hS hL ((Step.refl hI).moves hI) (hρ x (by simp [Op.operands]))
  case assign x =>
    obtain ⟨rfl, h3⟩ := Prod.mk.inj (Option.some.inj h)
    obtain ⟨rfl, rfl⟩ := Prod.mk.inj h3
    exact res_val (E' := E) (by simp [execOp, hop]) hS hL ((Step.refl hI).moves hI) (hρ x (by simp [Op.operands]))
  case pick c x y =>
    split at h
    · rename_i t hc
      have hcv := W_pv (hρ c (by simp [Op.operands]))
      rw [hc] at hcv
      obtain ⟨rfl, h3⟩ := Prod.mk.inj (Option.some.inj h)
      obtain ⟨rfl, rfl⟩ := Prod.mk.inj h3
      have hcv' : a.eval c = .bool t := hcv
      refine res_val (E' := E) (v := if t then a.eval x else a.eval y) (by simp [execOp, hop, hcv', asBool]) hS hL ((Step.refl hI).moves hI) ?_
      cases t
      · exact hρ y (by simp [Op.operands])
      · exact hρ x (by simp [Op.operands])
    · cases h
  case alloc e =>
    split at h
    · rename_i z hz
      obtain ⟨i, zv, hi, hzv, rfl⟩ := zeros_some hz
      obtain ⟨E', h1, h2, h3, h4, h5⟩ := new_sound hS hL hI h zv.cells e (by simp) (WL_ofCells E _)
      refine res_val (E' := E') ?_ h3 h4 h2 h5
      rw [h1]
      simp [execOp, hop, Instr.alloc, typeInfo, zeroValue, hi, hzv, newVar, newRow]
    · cases h
  case box e x =>
    split at h
    · rename_i cs hcs
      obtain ⟨c1, c2, c3⟩ := cells_sound hcs (W_pv (hρ x (by simp [Op.operands])))
      obtain ⟨E', h1, h2, h3, h4, h5⟩ := new_sound hS hL hI h (a.eval x).cells e c2 c1
      refine res_val (E' := E') ?_ h3 h4 h2 h5
      rw [h1]
      simp [execOp, hop, Instr.box, newVar, newRow]
    · cases h
  case build t ps =>
    refine res_pure hS hL hI h (s := Instr.build t (ps.map fun (i, x) => (i, a.eval x))) (by simp [execOp, hop]) fun p hp => ?_
    refine build_sound hp ?_
    rw [Array.toList_map]
    exact WParts_ops _ (fun x hx => hρ x.2 (by simp only [Op.operands, List.toList_toArray]; exact List.mem_map_of_mem hx))
  case buildSlice t n ps =>
    obtain ⟨p, hp, h2⟩ := Option.map_eq_some_iff.1 h
    obtain ⟨rfl, h3⟩ := Prod.mk.inj h2
    obtain ⟨rfl, rfl⟩ := Prod.mk.inj h3
    obtain ⟨v, E', h4, h5, h6, h7, h8⟩ := buildSlice_sound hI hp (vs := ps.map fun (i, x) => (i, a.eval x)) (by
      rw [Array.toList_map]
      exact WParts_ops _ (fun x hx => hρ x.2 (by simp only [Op.operands, List.toList_toArray]; exact List.mem_map_of_mem hx)))
    exact res_val (E' := E') (by simp [execOp, hop, h4]) (h6.trans hS) (h7.trans hL) (h5.moves hI) h8
  case load t x =>
    exact res_pure hS hL hI h (s := Instr.loadAt t (a.eval x)) (by simp [execOp, hop]) fun p hp => load_sound hS hL hI hp (hρ x (by simp [Op.operands]))
  case store t x y =>
    obtain ⟨T1, hp, h2⟩ := Option.map_eq_some_iff.1 h
    obtain ⟨rfl, h3⟩ := Prod.mk.inj h2
    obtain ⟨rfl, rfl⟩ := Prod.mk.inj h3
    obtain ⟨E', h4, h5, h6, h7⟩ := store_sound hS hL hI (P := C.P) hp (hρ x (by simp [Op.operands])) (W_pv (hρ y (by simp [Op.operands])))
    exact res_skip (E' := E') (by simp [execOp, hop, h4]) h6 h7 (h5.moves hI)
  case nilCheck x =>
    have hv := hρ x (by simp [Op.operands])
    split at h
    · rename_i d off hx
      rw [hx] at hv
      obtain ⟨rfl, h3⟩ := Prod.mk.inj (Option.some.inj h)
      obtain ⟨rfl, rfl⟩ := Prod.mk.inj h3
      obtain ⟨cs, q1, q2⟩ := hv
      exact res_val (E' := E) (v := a.eval x) (by simp [execOp, hop, q2]) hS hL ((Step.refl hI).moves hI) ⟨cs, q1, q2⟩
    · rename_i cs off hx
      rw [hx] at hv
      obtain ⟨rfl, h3⟩ := Prod.mk.inj (Option.some.inj h)
      obtain ⟨rfl, rfl⟩ := Prod.mk.inj h3
      have hv' := hv
      obtain ⟨k, o', q2, _⟩ := hv'
      exact res_val (E' := E) (v := a.eval x) (by simp [execOp, hop, q2]) hS hL ((Step.refl hI).moves hI) hv
    · rename_i b ver off hx
      rw [hx] at hv
      split at h
      · rename_i hb
        obtain ⟨rfl, h3⟩ := Prod.mk.inj (Option.some.inj h)
        obtain ⟨rfl, rfl⟩ := Prod.mk.inj h3
        cases hbx : T.S.get b with
        | none => simp [hbx] at hb
        | some bx =>
          simp [hbx] at hb
          have hv' := hv
          obtain ⟨_, g3⟩ := hv'
          obtain ⟨_, g5⟩ := g3 bx (by rw [hS]; exact hbx)
          obtain ⟨k, _, q2⟩ := g5 hb
          exact res_val (E' := E) (v := a.eval x) (by simp [execOp, hop, q2]) hS hL ((Step.refl hI).moves hI) hv
      · cases h
    · rename_i g u w hx
      rw [hx] at hv
      obtain ⟨rfl, h3⟩ := Prod.mk.inj (Option.some.inj h)
      obtain ⟨rfl, rfl⟩ := Prod.mk.inj h3
      have hv' := hv
      obtain ⟨u', w', q2, _⟩ := hv'
      exact res_val (E' := E) (v := a.eval x) (by simp [execOp, hop, q2]) hS hL ((Step.refl hI).moves hI) hv
    · cases h
  case binOp op t x y yt =>
    exact res_pure hS hL hI h (s := do eqGuard op t x y (a.eval x) (a.eval y); binOp op t (a.eval x) (a.eval y)) (by simp [execOp, hop]) fun p hp =>
      bin_sound hp (W_pv (hρ x (by simp [Op.operands]))) (W_pv (hρ y (by simp [Op.operands]))) x y
  case unOp op t x =>
    exact res_pure hS hL hI h (s := Op.unary op (a.eval x)) (by simp [execOp, hop]) fun p hp => un_sound hp (W_pv (hρ x (by simp [Op.operands])))
  case convert src dst x =>
    obtain ⟨p, hp, h2⟩ := Option.map_eq_some_iff.1 h
    obtain ⟨rfl, h3⟩ := Prod.mk.inj h2
    obtain ⟨rfl, rfl⟩ := Prod.mk.inj h3
    obtain ⟨v, E', h4, h5, h6, h7, h8⟩ := conv_sound hS hI hp (W_pv (hρ x (by simp [Op.operands])))
    exact res_val (E' := E') (by simp [execOp, hop, h4]) (h6.trans hS) (h7.trans hL) (h5.moves hI) h8
  case makeInterface t x =>
    have hv := W_pv (hρ x (by simp [Op.operands]))
    split at h
    · cases h
    · rename_i d hd hu
      refine res_pure hS hL hI h (s := Instr.makeInterface t (a.eval x)) (by simp [execOp, hop]) fun p hp => ?_
      obtain rfl := Option.some.inj hp
      refine ⟨.iface t (a.eval x), ?_, _, rfl, hv⟩
      cases d <;> first | exact (hd _ rfl).elim | simp [Instr.makeInterface, run_underlying hu]
    · cases h
  case makeFunc fn first captured =>
    refine res_pure hS hL hI h (s := Instr.makeFunc fn (first.map a.eval) (captured.map a.eval)) (by simp [execOp, hop]) fun p hp => ?_
    obtain rfl := Option.some.inj hp
    refine ⟨_, rfl, first.toList.map a.eval, captured.toList.map a.eval, ?_, WL_ops _ (fun x hx => hρ x (by simp only [Op.operands, Array.toList_append, List.mem_append]; exact .inl hx)), WL_ops _ (fun x hx => hρ x (by simp only [Op.operands, Array.toList_append, List.mem_append]; exact .inr hx))⟩
    congr 1 <;> (apply Array.ext'; simp)
  case makeSlice t n c =>
    exact res_both hI h (s := Instr.makeSlice t (a.eval n) (a.eval c)) (by simp [execOp, hop]) fun p T1 hp =>
      make_sound hS hL hI hp (W_pv (hρ n (by simp [Op.operands]))) (W_pv (hρ c (by simp [Op.operands])))
  case slice t x lo hi mx =>
    split at h
    · cases h
    · rename_i hmh
      refine res_pure hS hL hI h (s := Instr.sliceAt t (a.eval x) (lo.map a.eval) (hi.map a.eval) (mx.map a.eval)) (by simp [execOp, hop]) fun p hp => ?_
      refine slice_sound hS hI hp (W_pv (hρ x (by simp [Op.operands]))) (OptW_map lo fun y hy => hρ y (by simp [Op.operands, hy])) (OptW_map hi fun y hy => hρ y (by simp [Op.operands, hy])) (OptW_map mx fun y hy => hρ y (by simp [Op.operands, hy])) ?_
      intro hn
      cases mx with
      | none => rfl
      | some m =>
        cases hi with
        | none => simp at hmh
        | some q => simp at hn
  case fieldAddr t x i =>
    split at h
    · rename_i fd hf
      split at h
      · rename_i n hn
        exact res_rv hS hL hI h (s := Instr.fieldAt t (a.eval x) i) (by simp [execOp, hop]) fun p hp => fieldAddr_sound hS hf hn hp (hρ x (by simp [Op.operands]))
      · cases h
    · cases h
  case field t x i =>
    split at h
    · rename_i fd cs hf hx
      have hv := W_pv (hρ x (by simp [Op.operands]))
      rw [hx] at hv
      exact res_pure hS hL hI h (s := Instr.field t (a.eval x) i) (by simp [execOp, hop]) fun p hp => field_sound hf hp hv
    · cases h
  case indexAddr t x i =>
    exact res_rv hS hL hI h (s := Instr.indexAt t (a.eval x) (a.eval i)) (by simp [execOp, hop]) fun p hp =>
      indexAddr_sound hS hI hp (hρ x (by simp [Op.operands])) (W_pv (hρ i (by simp [Op.operands])))
  case index t x i =>
    exact res_pure hS hL hI h (s := Instr.index t (a.eval x) (a.eval i)) (by simp [execOp, hop]) fun p hp =>
      index_sound hp (W_pv (hρ x (by simp [Op.operands]))) (W_pv (hρ i (by simp [Op.operands])))
  case extract x i =>
    have hv := W_pv (hρ x (by simp [Op.operands]))
    split at h
    · rename_i vs hx
      rw [hx] at hv
      obtain ⟨us, q1, q2⟩ := hv
      obtain ⟨w1, w2⟩ := WL_iff.1 q2
      refine res_pure hS hL hI h (s := Instr.extract (a.eval x) i) (by simp [execOp, hop]) fun p hp => ?_
      have hi : i < vs.length := by
        rcases Nat.lt_or_ge i vs.length with h' | h'
        · exact h'
        · simp [List.getElem?_eq_none h'] at hp
      have hi' : i < us.length := by omega
      exact ⟨us[i], by simp [q1, Instr.extract, hi'], w2 i p _ hp (by simp [hi'])⟩
    · cases h
  case call c =>
    have hargs : ∀ x ∈ c.args.toList, V E (ρ x) (a.eval x) := fun x hx => hρ x (by simp only [Op.operands, Call.operands, Array.toList_append, List.mem_append]; exact .inr hx)
    have hrun : ∀ b, c.callee = .builtin b → execOp a.eval o = builtin b c.argTypes o.type (c.args.map fun | .const _ => true | _ => false) (c.args.map a.eval) := by
      intro b hb
      simp [execOp, hop, resolve, hb, invoke]
      rfl
    split at h
    · rename_i hb
      split at h
      · rename_i x t ts hx hts
        have hat : c.argTypes[0]? = some t := by rw [← Array.getElem?_toList, hts]; rfl
        have hav : c.args.map a.eval = #[a.eval x] := by apply Array.ext'; rw [Array.toList_map, hx]; rfl
        refine res_pure hS hL hI h (s := Builtin.len_ c.argTypes o.type #[a.eval x]) (by rw [hrun _ hb, hav]; rfl) fun p hp => len_sound hat hp (W_pv (hargs x (by rw [hx]; simp)))
      · cases h
    · rename_i hb
      split at h
      · rename_i sx x t u ts hx hts
        have hav : c.args.map a.eval = #[a.eval sx, a.eval x] := by apply Array.ext'; rw [Array.toList_map, hx]; rfl
        have hty : c.argTypes = (t :: u :: ts).toArray := by rw [← hts]
        split at h
        · rename_i e2 hu
          refine res_both hI h (s := Builtin.append_ (t :: u :: ts).toArray o.type #[a.eval sx, a.eval x]) (by rw [hrun _ hb, hav, hty]; rfl) fun p T1 hp => ?_
          exact append_sound hS hL hI hu (.inl ⟨e2, rfl⟩) hp (W_pv (hargs sx (by rw [hx]; simp))) (W_pv (hargs x (by rw [hx]; simp)))
        · rename_i hu
          refine res_both hI h (s := Builtin.append_ (t :: u :: ts).toArray o.type #[a.eval sx, a.eval x]) (by rw [hrun _ hb, hav, hty]; rfl) fun p T1 hp => ?_
          exact append_sound hS hL hI hu (.inr rfl) hp (W_pv (hargs sx (by rw [hx]; simp))) (W_pv (hargs x (by rw [hx]; simp)))
        · cases h
      · cases h
    · rename_i hb
      split at h
      · rename_i dx x t ts hx hts
        have hat : c.argTypes[0]? = some t := by rw [← Array.getElem?_toList, hts]; rfl
        have hav : c.args.map a.eval = #[a.eval dx, a.eval x] := by apply Array.ext'; rw [Array.toList_map, hx]; rfl
        refine res_both hI h (s := Builtin.copy_ c.argTypes o.type #[a.eval dx, a.eval x]) (by rw [hrun _ hb, hav]; rfl) fun p T1 hp => ?_
        exact copy_sound hS hL hI hat hp (W_pv (hargs dx (by rw [hx]; simp))) (W_pv (hargs x (by rw [hx]; simp)))
      · cases h
    · rename_i hb
      have two : ∀ p, minO false (c.args.toList.map fun x => (ρ x).pv) = some p → ∃ x y, c.args.toList = [x, y] := by
        intro p hp
        cases h0 : c.args.toList with
        | nil => rw [h0] at hp; cases hp
        | cons x l =>
          cases l with
          | nil => rw [h0] at hp; simp [minO] at hp
          | cons y l =>
            cases l with
            | nil => exact ⟨x, y, rfl⟩
            | cons z l => rw [h0] at hp; simp [minO] at hp
      refine res_pure hS hL hI h (s := Builtin.min_ c.argTypes o.type (c.args.map a.eval)) (by rw [hrun _ hb]; rfl) fun p hp => ?_
      obtain ⟨x, y, hxy⟩ := two p hp
      have hav : c.args.map a.eval = #[a.eval x, a.eval y] := by apply Array.ext'; rw [Array.toList_map, hxy]; rfl
      rw [hxy] at hp
      have := min_sound (P := C.P) (E := E) c.argTypes o.type hp (W_pv (hargs x (by rw [hxy]; simp))) (W_pv (hargs y (by rw [hxy]; simp)))
      rw [hav]
      simpa using this
    · rename_i hb
      have two : ∀ p, minO true (c.args.toList.map fun x => (ρ x).pv) = some p → ∃ x y, c.args.toList = [x, y] := by
        intro p hp
        cases h0 : c.args.toList with
        | nil => rw [h0] at hp; cases hp
        | cons x l =>
          cases l with
          | nil => rw [h0] at hp; simp [minO] at hp
          | cons y l =>
            cases l with
            | nil => exact ⟨x, y, rfl⟩
            | cons z l => rw [h0] at hp; simp [minO] at hp
      refine res_pure hS hL hI h (s := Builtin.max_ c.argTypes o.type (c.args.map a.eval)) (by rw [hrun _ hb]; rfl) fun p hp => ?_
      obtain ⟨x, y, hxy⟩ := two p hp
      have hav : c.args.map a.eval = #[a.eval x, a.eval y] := by apply Array.ext'; rw [Array.toList_map, hxy]; rfl
      rw [hxy] at hp
      have := min_sound (P := C.P) (E := E) c.argTypes o.type hp (W_pv (hargs x (by rw [hxy]; simp))) (W_pv (hargs y (by rw [hxy]; simp)))
      rw [hav]
      simpa using this
    · rename_i g hb
      have hgv := W_pv (hρ g (by simp [Op.operands, Call.operands, hb]))
      split at h
      · rename_i g' first captured hg
        rw [hg] at hgv
        obtain ⟨fv, cv, e1, wf, wc⟩ := hgv
        obtain ⟨⟨p, S1⟩, hp, h2⟩ := Option.map_eq_some_iff.1 h
        obtain ⟨rfl, h3⟩ := Prod.mk.inj h2
        obtain ⟨rfl, rfl⟩ := Prod.mk.inj h3
        have hwa := WL_append (WL_append wf (WL_ops c.args.toList hargs)) wc
        have hle0 : ∀ cs vs, WL E cs vs → WL { E with L := [] } cs vs := fun cs vs => WL.mono (E := E) (E' := { E with L := [] }) ⟨fun _ hk => ⟨hk, rfl⟩, Nat.le_refl _, fun _ bx' _ hx => ⟨bx', hx, fun _ => ⟨rfl, rfl, rfl⟩, Nat.le_refl _⟩⟩ cs vs
        obtain ⟨⟨fn, f1, f2, f3⟩, hc⟩ := hcall g' _ T.S p S1 hp { E with L := [] } hS rfl hI.aside hG _ (hle0 _ _ hwa)
        intro next Q hn
        have hr : (execOp a.eval o).run C.P E.w = .ok (.enter g' (fv ++ c.args.toList.map a.eval ++ cv).toArray) E.w := by
          have f2' : fn.body ≠ none := by intro hq; simp [hq] at f2
          simp [execOp, hop, resolve, hb, e1, Deferred.ofValue, invoke, callFunc, f1, f2', f3]
        unfold Oper.wp
        rw [hr, Oper.upon_enter]
        refine hc.mono ?_
        rintro e w' ⟨v, E1, rfl, rfl, k1, k2, k3, k4, k5⟩
        have hst := Step.called hI k3 k4 k2
        refine hn v { E1 with L := E.L, l := E.l } k1 hL (hst.moves hI) ?_
        exact W.mono (E := E1) (E' := { E1 with L := E.L, l := E.l }) ⟨fun _ hk => ⟨hk, rfl⟩, Nat.le_refl _, fun _ bx' _ hx => ⟨bx', hx, fun _ => ⟨rfl, rfl, rfl⟩, Nat.le_refl _⟩⟩ _ _ k5
      · cases h
    · cases h
end Go.Pvm
