/-
  A part of the proof: Px3.
-/
import Derived.Test.YtmjnfdjhaopeiaaGreatDoorPx2
/-
  PVM: a run in which some operations are told what they yield; what has to be shown of them is gathered.
-/
namespace Go.Pvm
open Go

abbrev CallFn := FuncId → List PV → Store → Option (PV × Store)

def all' : List Prop → Prop
  | [] => True
  | p :: r => p ∧ all' r

theorem all'_append : ∀ {a b : List Prop}, all' (a ++ b) ↔ all' a ∧ all' b
  | [], b => by simp [all']
  | p :: a, b => by simp [all', all'_append (a := a), and_assoc]

/-- What has to be shown where an operation is told what it yields. -/
def obl (C : Cfg) (call : CallFn) (f : FuncId) (o : Oper) (F : Fr) (r : RV) : Prop :=
  match o.op with
  | .binOp op t x y _ => match binO C.P op t (F.ev C x).pv (F.ev C y).pv, r with
    | some (.s (.bool c)), .v (.s (.bool b)) => c = b
    | some (.s (.int k a)), .v (.s (.int k' b)) => k = k' ∧ a = b
    | _, _ => False
  | .indexAddr t x i => indexAddrO C.P F.st t (F.ev C x) (F.ev C i).pv = some r
  | .load t a => match r with
    | .v p => loadO C.P F.st t (F.ev C a) = some p
    | _ => False
  | .call c => match c.callee, r with
    | .value g, .v p => match (F.ev C g).pv with
      | .fn (.func g) first captured => call g (first ++ c.args.toList.map (fun x => (F.ev C x).pv) ++ captured) F.st.S = some (p, F.st.S)
      | _ => False
    | _, _ => evalOp C call f o (F.ev C) F.st = some (r, F.st, none)
  | _ => evalOp C call f o (F.ev C) F.st = some (r, F.st, none)

theorem obl_ok {C : Cfg} {call : CallFn} {f : FuncId} {o : Oper} {F : Fr} {r : RV} (h : obl C call f o F r) : evalOp C call f o (F.ev C) F.st = some (r, F.st, none) := by
  unfold obl at h
  split at h
  · rename_i op t x y ty hop
    unfold evalOp
    dsimp only
    simp only [hop]
    split at h
    · rename_i c b hb
      rw [hb, h]; rfl
    · rename_i k a k' b hb
      rw [hb, h.1, h.2]; rfl
    · exact h.elim
  · rename_i t x i hop
    unfold evalOp
    dsimp only
    simp only [hop]
    rw [h]; rfl
  · rename_i t a hop
    unfold evalOp
    dsimp only
    simp only [hop]
    split at h
    · rw [h]; rfl
    · exact h.elim
  · rename_i c hop
    split at h
    · rename_i g p hc
      unfold evalOp
      dsimp only
      simp only [hop, hc]
      split at h
      · rename_i g' first captured hg
        simp only [hg]
        rw [h]; rfl
      · exact h.elim
    · exact h
  · exact h

def askOps (C : Cfg) (call : CallFn) (f : FuncId) (ask : List Nat) (ops : Array Oper) : List Nat → Fr → List RV → Option (Fr × List RV × List Prop)
  | [], F, ys => some (F, ys, [])
  | i :: r, F, ys => match ops[i]? with
    | none => askOps C call f ask ops r F ys
    | some o => if (o.dst.any fun d => F.nt ≤ d) then none else match wantedO ops o F with
      | none => none
      | some false => askOps C call f ask ops r (F.seto o.dst (.v (.s undef))) ys
      | some true => if o.dst.any (mem? ask) then match ys with
          | [] => none
          | a :: ys => (askOps C call f ask ops r (F.after o.dst a F.st none) ys).map fun (F', ys', l) => (F', ys', obl C call f o F a :: l)
        else match evalOp C call f o (F.ev C) F.st with
          | some (p, T, sc) => askOps C call f ask ops r (F.after o.dst p T sc) ys
          | none => none

theorem askOps_ok {C : Cfg} {call : CallFn} {f : FuncId} {ask : List Nat} {ops : Array Oper} : ∀ (is : List Nat) (F : Fr) (ys : List RV) (F' : Fr) (ys' : List RV) (l : List Prop),
    askOps C call f ask ops is F ys = some (F', ys', l) → all' l → runOps C call f ops is F = some F'
  | [], F, ys, F', ys', l, h, _ => by
    simp only [askOps, Option.some.injEq, Prod.mk.injEq] at h
    obtain ⟨rfl, _, _⟩ := h; rfl
  | i :: r, F, ys, F', ys', l, h, hl => by
    simp only [askOps] at h
    simp only [runOps]
    cases ho : ops[i]? with
    | none => rw [ho] at h; exact askOps_ok r F ys F' ys' l h hl
    | some o =>
      rw [ho] at h
      simp only at h ⊢
      split at h
      · cases h
      · rename_i hn
        rw [if_neg hn]
        split at h
        · cases h
        · rename_i hw; rw [hw]; exact askOps_ok r _ ys F' ys' l h hl
        · rename_i hw
          rw [hw]
          simp only
          split at h
          · split at h
            · cases h
            · rename_i a as0
              obtain ⟨⟨F1, as1, l1⟩, h1, h2⟩ := Option.map_eq_some_iff.1 h
              obtain ⟨rfl, h3⟩ := Prod.mk.inj h2
              obtain ⟨rfl, rfl⟩ := Prod.mk.inj h3
              rw [obl_ok hl.1]
              exact askOps_ok r _ _ _ _ _ h1 hl.2
          · split at h
            · rename_i p T sc he
              rw [he]
              exact askOps_ok r _ _ _ _ _ h hl
            · cases h

theorem look_keys (g : Nat → RV) : ∀ (l : List Nat) (t : Nat), look (l.map fun t => (t, g t)) t = if t ∈ l then some (g t) else none
  | [], t => by simp [look]
  | a :: l, t => by
    simp only [List.map_cons, look]
    by_cases e : a = t
    · subst e; simp
    · simp [e, Ne.symm e, look_keys g l t]

theorem clear_clear (C : Cfg) (f : FuncId) (F : Fr) : (F.clear C f).clear C f = F.clear C f := by
  have hr : ((C.keep f).map fun t => (t, (F.clear C f).get t)) = (C.keep f).map fun t => (t, F.get t) := by
    apply List.map_congr_left
    intro t ht
    have : (F.clear C f).get t = F.get t := by
      show (look ((C.keep f).map fun t => (t, F.get t)) t).getD (.v .any) = F.get t
      rw [look_keys (fun t => F.get t), if_pos ht]; rfl
    rw [this]
  unfold Fr.clear at hr ⊢
  simp only at hr ⊢
  rw [hr]
  simp [List.filter_filter]

theorem iter_clear {C : Cfg} {f : FuncId} {g : Fr → Option (X × Fr)} (m : Nat) (F : Fr) : iter C f g m (F.clear C f) = iter C f g m F := by
  cases m with
  | zero => rfl
  | succ m => simp only [iter, clear_clear]

/-- An entry of the trace, where the operation is told what it yields. -/
def askEnt (C : Cfg) (o : Oper) (F : Fr) (a : RV) : Option Ent := (effO C o (F.ev C) F.st F.st).map fun (e, rd) => ⟨F, true, a, e, rd⟩

def askTrace (C : Cfg) (call : CallFn) (f : FuncId) (ask : List Nat) (ops : Array Oper) : List Oper → Fr → List RV → Option (List Ent × Fr × List RV × List Prop)
  | [], F, ys => some ([], F, ys, [])
  | o :: r, F, ys =>
    if (o.dst.any fun d => F.nt ≤ d) then none else
    match wantedO ops o F with
    | none => none
    | some false => (askTrace C call f ask ops r ((⟨F, false, .v (.s undef), .none, []⟩ : Ent).next o.dst) ys).map fun (l, F', ys', ps) => (⟨F, false, .v (.s undef), .none, []⟩ :: l, F', ys', ps)
    | some true => if o.dst.any (mem? ask) then match ys with
        | [] => none
        | a :: ys => match askEnt C o F a with
          | none => none
          | some x => (askTrace C call f ask ops r (x.next o.dst) ys).map fun (l, F', ys', ps) => (x :: l, F', ys', obl C call f o F a :: ps)
      else match evalOp C call f o (F.ev C) F.st with
        | some (p, T1, none) => match effO C o (F.ev C) F.st T1 with
          | none => none
          | some (e, rd) => (askTrace C call f ask ops r ((⟨F, true, p, e, rd⟩ : Ent).next o.dst) ys).map fun (l, F', ys', ps) => (⟨F, true, p, e, rd⟩ :: l, F', ys', ps)
        | _ => none

theorem askTrace_ok {C : Cfg} {call : CallFn} {f : FuncId} {ask : List Nat} {ops : Array Oper} : ∀ (os : List Oper) (F : Fr) (ys : List RV) (l : List Ent) (F' : Fr) (ys' : List RV) (ps : List Prop),
    askTrace C call f ask ops os F ys = some (l, F', ys', ps) → all' ps → traceOps C call f ops os F = some (l, F')
  | [], F, ys, l, F', ys', ps, h, _ => by
    simp only [askTrace, Option.some.injEq, Prod.mk.injEq] at h
    obtain ⟨rfl, rfl, _⟩ := h; rfl
  | o :: r, F, ys, l, F', ys', ps, h, hp => by
    simp only [askTrace] at h
    simp only [traceOps]
    split at h
    · cases h
    · rename_i hn
      rw [if_neg hn]
      split at h
      · cases h
      · rename_i hw
        obtain ⟨⟨l1, F1, ys1, ps1⟩, h1, h2⟩ := Option.map_eq_some_iff.1 h
        obtain ⟨rfl, h3⟩ := Prod.mk.inj h2
        obtain ⟨rfl, h4⟩ := Prod.mk.inj h3
        obtain ⟨rfl, rfl⟩ := Prod.mk.inj h4
        rw [hw]
        simp only
        rw [askTrace_ok r _ _ _ _ _ _ h1 hp]
        rfl
      · rename_i hw
        rw [hw]
        simp only
        split at h
        · split at h
          · cases h
          · rename_i a ys0
            split at h
            · cases h
            · rename_i x hx
              obtain ⟨⟨l1, F1, ys1, ps1⟩, h1, h2⟩ := Option.map_eq_some_iff.1 h
              obtain ⟨rfl, h3⟩ := Prod.mk.inj h2
              obtain ⟨rfl, h4⟩ := Prod.mk.inj h3
              obtain ⟨rfl, rfl⟩ := Prod.mk.inj h4
              rw [obl_ok hp.1]
              have hx' : Option.map (fun (e, rd) => (⟨F, true, a, e, rd⟩ : Ent)) (effO C o (F.ev C) F.st F.st) = some x := hx
              simp only
              rw [hx']
              simp only
              rw [askTrace_ok r _ _ _ _ _ _ h1 hp.2]
              rfl
        · split at h
          · rename_i p T1 he
            rw [he]
            simp only
            split at h
            · cases h
            · rename_i e rd hf
              obtain ⟨⟨l1, F1, ys1, ps1⟩, h1, h2⟩ := Option.map_eq_some_iff.1 h
              obtain ⟨rfl, h3⟩ := Prod.mk.inj h2
              obtain ⟨rfl, h4⟩ := Prod.mk.inj h3
              obtain ⟨rfl, rfl⟩ := Prod.mk.inj h4
              rw [hf]
              simp only [Option.map_some]
              rw [askTrace_ok r _ _ _ _ _ _ h1 hp]
              rfl
          · cases h

def askDraw (C : Cfg) (call : CallFn) (f : FuncId) (ask : List Nat) (ops : Array Oper) (F : Fr) (ys : List RV) : Option (Fr × List RV × List Prop) :=
  if (C.P.follows .mixedOrders || !Region.departs ops || (rankB .text ops && rankB .gc ops)) && edgesB ops && tmpsB ops then
    match askTrace C call f ask ops ops.toList F ys with
    | some (l, F', ys', ps) => if keysB ops l then some (F', ys', ps) else none
    | none => none
  else none

theorem askDraw_ok {C : Cfg} {call : CallFn} {f : FuncId} {ask : List Nat} {ops : Array Oper} {F F' : Fr} {ys ys' : List RV} {ps : List Prop}
    (h : askDraw C call f ask ops F ys = some (F', ys', ps)) (hp : all' ps) : runDraw C call f ops F = some F' := by
  unfold askDraw at h
  unfold runDraw
  split at h
  · rename_i hc
    rw [if_pos hc]
    split at h
    · rename_i l F1 ys1 ps1 ht
      split at h
      · rename_i hk
        obtain ⟨rfl, h3⟩ := Prod.mk.inj (Option.some.inj h)
        obtain ⟨rfl, rfl⟩ := Prod.mk.inj h3
        rw [askTrace_ok _ _ _ _ _ _ _ ht hp]
        simp [hk]
      · cases h
    · cases h
  · cases h

/-- Likewise for code; a loop is told how it ends. -/
def askExec (C : Cfg) (call : CallFn) (f : FuncId) (n : Nat) (ask : List Nat) (lp : Fr → X × Fr) : Code → Fr → List RV → Option (X × Fr × List RV × List Prop)
  | .skip, F, ys => some (.normal, F, ys, [])
  | .label _, F, ys => some (.normal, F, ys, [])
  | .region _ ops draw, F, ys => if draw then (askDraw C call f ask ops F ys).map fun (F, ys, l) => (.normal, F, ys, l) else
      (askOps C call f ask ops (List.range ops.size) F ys).map fun (F, ys, l) => (.normal, F, ys, l)
  | .seq a b, F, ys => match askExec C call f n ask lp a F ys with
    | some (.normal, F1, as1, l1) => (askExec C call f n ask lp b F1 as1).map fun (x, F2, as2, l2) => (x, F2, as2, l1 ++ l2)
    | r => r
  | .cond c a b, F, ys => match F.ev C c with
    | .v (.s (.bool t)) => if t then askExec C call f n ask lp a F ys else askExec C call f n ask lp b F ys
    | _ => none
  | .block id c, F, ys => match askExec C call f n ask lp c F ys with
    | some (.exit j, F1, r) => if j = id then some (.normal, F1, r) else some (.exit j, F1, r)
    | r => r
  | .loop c, F, ys => some ((lp F).1, (lp F).2, ys, [iter C f (exec C call f n c) n (F.clear C f) = some (lp F)])
  | .exit id, F, ys => some (.exit id, F, ys, [])
  | .ret, F, ys => some (.ret, F, ys, [])
  | _, _, _ => none

theorem askExec_ok {C : Cfg} {call : CallFn} {f : FuncId} {n : Nat} {ask : List Nat} {lp : Fr → X × Fr} : ∀ (c : Code) (F : Fr) (ys : List RV) (x : X) (F' : Fr) (ys' : List RV) (l : List Prop),
    askExec C call f n ask lp c F ys = some (x, F', ys', l) → all' l → exec C call f n c F = some (x, F') := by
  intro c
  induction c with
  | skip =>
    intro F ys x F' ys' l h hl
    simp only [askExec, Option.some.injEq, Prod.mk.injEq] at h
    obtain ⟨rfl, rfl, _⟩ := h; rfl
  | label _ =>
    intro F ys x F' ys' l h hl
    simp only [askExec, Option.some.injEq, Prod.mk.injEq] at h
    obtain ⟨rfl, rfl, _⟩ := h; rfl
  | region id ops draw =>
    intro F ys x F' ys' l h hl
    simp only [askExec] at h
    simp only [exec]
    split at h
    · rename_i hd
      rw [if_pos hd]
      obtain ⟨⟨F1, as1, l1⟩, h1, h2⟩ := Option.map_eq_some_iff.1 h
      obtain ⟨rfl, h3⟩ := Prod.mk.inj h2
      obtain ⟨rfl, h4⟩ := Prod.mk.inj h3
      obtain ⟨rfl, rfl⟩ := Prod.mk.inj h4
      rw [askDraw_ok h1 hl]; rfl
    · rename_i hd
      rw [if_neg hd]
      obtain ⟨⟨F1, as1, l1⟩, h1, h2⟩ := Option.map_eq_some_iff.1 h
      obtain ⟨rfl, h3⟩ := Prod.mk.inj h2
      obtain ⟨rfl, h4⟩ := Prod.mk.inj h3
      obtain ⟨rfl, rfl⟩ := Prod.mk.inj h4
      rw [askOps_ok _ _ _ _ _ _ h1 hl]; rfl
  | seq a b iha ihb =>
    intro F ys x F' ys' l h hl
    simp only [askExec] at h
    simp only [exec]
    split at h
    · rename_i F1 as1 l1 ha
      obtain ⟨⟨x2, F2, as2, l2⟩, h1, h2⟩ := Option.map_eq_some_iff.1 h
      obtain ⟨rfl, h3⟩ := Prod.mk.inj h2
      obtain ⟨rfl, h4⟩ := Prod.mk.inj h3
      obtain ⟨rfl, rfl⟩ := Prod.mk.inj h4
      obtain ⟨hl1, hl2⟩ := all'_append.1 hl
      rw [iha _ _ _ _ _ _ ha hl1]
      exact ihb _ _ _ _ _ _ h1 hl2
    · rename_i r hne
      have := iha _ _ _ _ _ _ h hl
      rw [this]
      cases x with
      | normal => exact absurd h (hne F' ys' l)
      | exit j => rfl
      | ret => rfl
  | cond c a b iha ihb =>
    intro F ys x F' ys' l h hl
    simp only [askExec] at h
    simp only [exec]
    split at h
    · rename_i t hc
      rw [hc]
      simp only
      split at h
      · rename_i ht; rw [if_pos ht]; exact iha _ _ _ _ _ _ h hl
      · rename_i ht; rw [if_neg ht]; exact ihb _ _ _ _ _ _ h hl
    · cases h
  | block id c ih =>
    intro F ys x F' ys' l h hl
    simp only [askExec] at h
    simp only [exec]
    split at h
    · rename_i j F1 r hc
      obtain ⟨as1, l1⟩ := r
      split at h
      · rename_i hj
        obtain ⟨rfl, h3⟩ := Prod.mk.inj (Option.some.inj h)
        obtain ⟨rfl, h4⟩ := Prod.mk.inj h3
        obtain ⟨rfl, rfl⟩ := Prod.mk.inj h4
        rw [ih _ _ _ _ _ _ hc hl]
        simp [hj]
      · rename_i hj
        obtain ⟨rfl, h3⟩ := Prod.mk.inj (Option.some.inj h)
        obtain ⟨rfl, h4⟩ := Prod.mk.inj h3
        obtain ⟨rfl, rfl⟩ := Prod.mk.inj h4
        rw [ih _ _ _ _ _ _ hc hl]
        simp [hj]
    · rename_i r hne
      rw [ih _ _ _ _ _ _ h hl]
      cases x with
      | exit j => exact absurd h (hne j F' _)
      | normal => rfl
      | ret => rfl
  | loop c ih =>
    intro F ys x F' ys' l h hl
    simp only [askExec, Option.some.injEq, Prod.mk.injEq] at h
    obtain ⟨rfl, rfl, _, rfl⟩ := h
    simp only [exec]
    rw [← iter_clear]
    exact hl.1
  | exit id =>
    intro F ys x F' ys' l h hl
    simp only [askExec, Option.some.injEq, Prod.mk.injEq] at h
    obtain ⟨rfl, rfl, _⟩ := h; rfl
  | ret =>
    intro F ys x F' ys' l h hl
    simp only [askExec, Option.some.injEq, Prod.mk.injEq] at h
    obtain ⟨rfl, rfl, _⟩ := h; rfl
  | _ => intro F ys x F' ys' l h hl; simp [askExec] at h

/-- A whole call, some of whose operations are told what they yield. -/
def askRun (C : Cfg) (n : Nat) (f : FuncId) (ask : List Nat) (lp : Fr → X × Fr) (args : List PV) (S : Store) (ys : List RV) : Option (PV × Store × List Prop) :=
  match C.intr f with
  | some _ => none
  | none => match C.P.funcs[f]? with
    | none => none
    | some fn => match fn.body with
      | none => none
      | some c => if fn.name = "runtime.NumGoroutine" then none else
        match askExec C (callF C (run C n)) f n ask lp c { regs := begin args 0, st := ⟨[], S⟩, nt := fn.ntmps } ys with
        | some (.normal, F, _, l) | some (.ret, F, _, l) => (resultsO C fn F).map fun r => (r, F.st.S, l)
        | _ => none

theorem askRun_ok {C : Cfg} {n : Nat} {f : FuncId} {ask : List Nat} {lp : Fr → X × Fr} {args : List PV} {S S' : Store} {ys : List RV} {r : PV} {l : List Prop}
    (h : askRun C n f ask lp args S ys = some (r, S', l)) (hl : all' l) : run C (n + 1) f args S = some (r, S') := by
  unfold askRun at h
  unfold run
  split at h
  · cases h
  rename_i hi
  rw [hi]
  simp only
  split at h
  · cases h
  rename_i fn hf
  rw [hf]
  simp only
  split at h
  · cases h
  rename_i c hb
  rw [hb]
  simp only
  split at h
  · cases h
  rename_i hn
  rw [if_neg hn]
  split at h
  · rename_i F as1 l1 he
    obtain ⟨r1, h1, h2⟩ := Option.map_eq_some_iff.1 h
    obtain ⟨rfl, h3⟩ := Prod.mk.inj h2
    obtain ⟨rfl, rfl⟩ := Prod.mk.inj h3
    rw [askExec_ok _ _ _ _ _ _ _ he hl]
    simp [h1]
  · rename_i F as1 l1 he
    obtain ⟨r1, h1, h2⟩ := Option.map_eq_some_iff.1 h
    obtain ⟨rfl, h3⟩ := Prod.mk.inj h2
    obtain ⟨rfl, rfl⟩ := Prod.mk.inj h3
    rw [askExec_ok _ _ _ _ _ _ _ he hl]
    simp [h1]
  · cases h

/-! ### rounds of a loop -/
/-- A round that goes on. -/
theorem iter_round {C : Cfg} {call : CallFn} {f : FuncId} {n : Nat} {ask : List Nat} {lp : Fr → X × Fr} {c : Code} {F F' : Fr} {ys : List RV} {l : List Prop} {m : Nat}
    (h : (askExec C call f n ask lp c (F.clear C f) ys).map (fun z => (z.1, z.2.1.clear C f, z.2.2.2)) = some (.normal, F', l)) (hl : all' l) :
    iter C f (exec C call f n c) (m + 1) F = iter C f (exec C call f n c) m F' := by
  obtain ⟨⟨x, F1, ys1, l1⟩, h1, h2⟩ := Option.map_eq_some_iff.1 h
  obtain ⟨rfl, h3⟩ := Prod.mk.inj h2
  obtain ⟨rfl, rfl⟩ := Prod.mk.inj h3
  simp only [iter, askExec_ok _ _ _ _ _ _ _ h1 hl, iter_clear]

/-- A round that ends the loop. -/
theorem iter_last {C : Cfg} {call : CallFn} {f : FuncId} {n : Nat} {ask : List Nat} {lp : Fr → X × Fr} {c : Code} {F F' : Fr} {ys ys' : List RV} {l : List Prop} {m j : Nat}
    (h : askExec C call f n ask lp c (F.clear C f) ys = some (.exit j, F', ys', l)) (hl : all' l) : iter C f (exec C call f n c) (m + 1) F = some (.exit j, F') := by
  simp only [iter, askExec_ok _ _ _ _ _ _ _ h hl]

theorem iter_last' {C : Cfg} {call : CallFn} {f : FuncId} {n : Nat} {ask : List Nat} {lp : Fr → X × Fr} {c : Code} {F F' : Fr} {ys ys' : List RV} {l : List Prop} {m : Nat} {x : X} (hx : x ≠ .normal)
    (h : askExec C call f n ask lp c (F.clear C f) ys = some (x, F', ys', l)) (hl : all' l) : iter C f (exec C call f n c) (m + 1) F = some (x, F') := by
  simp only [iter, askExec_ok _ _ _ _ _ _ _ h hl]
  cases x with
  | normal => exact absurd rfl hx
  | exit j => rfl
  | ret => rfl

/-- The first loop of a code. -/
def loopIn : Code → Option Code
  | .seq a b => match loopIn a with
    | some c => some c
    | none => loopIn b
  | .cond _ a b => match loopIn a with
    | some c => some c
    | none => loopIn b
  | .block _ c => loopIn c
  | .loop c => some c
  | _ => none

theorem callF_pure {C : Cfg} {rn : CallFn} {g : FuncId} {args : List PV} {S S1 : Store} {r r' : PV} (hf : C.full g = false) (hp : pureL? args = true) (h : rn g args ⟨[], 0⟩ = some (r, S1)) (hr : frz S1 9 r = some r') :
    callF C rn g args S = some (r', S) := by
  unfold callF
  rw [if_neg (by simp [hf]), if_pos hp, h]
  simp [hr]
end Go.Pvm
