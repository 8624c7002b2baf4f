/-
  A part of the proof: Vc2.
-/
import Derived.Test.YtmjnfdjhaopeiaaGreatDoorVc1
/-
  What has to be shown of code, computed.
-/
namespace Go.Pvm
open Go

/-- What is known of truths is so. -/
def Fok (fx : Fx) (F : Fr) : Prop := ∀ d b, look fx d = some b → F.get d = .v (.s (.bool b))

def rmFx (d : Option Nat) (fx : Fx) : Fx := match d with
  | none => fx
  | some d => fx.filter fun x => x.1 != d
def setFx (d : Option Nat) (b : Option Bool) (fx : Fx) : Fx := match d, b with
  | some d, some b => (d, b) :: rmFx (some d) fx
  | d, _ => rmFx d fx
def factOf (fx : Fx) : Operand → Option Bool
  | .tmp t => look fx t
  | _ => none

theorem Fok.nil (F : Fr) : Fok [] F := fun d b h => by simp [look] at h
theorem Fok.cons {fx : Fx} {F : Fr} (h : Fok fx F) {d : Nat} {b : Bool} (hd : F.get d = .v (.s (.bool b))) : Fok ((d, b) :: fx) F := by
  intro d' b' h'
  simp only [look] at h'
  split at h'
  · rename_i e; subst e
    obtain rfl := Option.some.inj h'
    exact hd
  · exact h d' b' h'

theorem look_rm {d d' : Nat} {b : Bool} : ∀ {fx : Fx}, look (rmFx (some d) fx) d' = some b → d ≠ d' ∧ look fx d' = some b
  | [], h => by simp [rmFx, look] at h
  | (j, x) :: r, h => by
    simp only [rmFx, List.filter] at h
    by_cases e : j = d
    · subst e
      simp only [bne_self_eq_false] at h
      obtain ⟨h1, h2⟩ := look_rm (fx := r) h
      exact ⟨h1, by simp only [look]; rw [if_neg h1]; exact h2⟩
    · have : (j != d) = true := by simp [e]
      simp only [this] at h
      simp only [look] at h ⊢
      split at h
      · rename_i e'
        rw [if_pos e']
        exact ⟨fun e2 => e (e'.trans e2.symm), h⟩
      · rename_i e'
        rw [if_neg e']
        exact look_rm (fx := r) h

theorem after_get {F : Fr} {dst : Option Nat} {r : RV} {T : LS} {sc : Option Nat} {d : Nat} {p : PV} (hd : dst ≠ some d) (h : F.get d = .v p) : (F.after dst r T sc).get d = .v p := by
  have key : ∀ (sc : Nat) (l : List (Nat × RV)), (look l d).getD (.v .any) = .v p → (look (scrub sc l) d).getD (.v .any) = .v p := by
    intro sc l
    induction l with
    | nil => intro h; exact h
    | cons x l ih =>
      obtain ⟨j, x⟩ := x
      intro h
      simp only [scrub, List.map, look] at h ⊢
      by_cases e : j = d
      · rw [if_pos e] at h ⊢
        simp only [Option.getD_some] at h ⊢
        subst h; rfl
      · rw [if_neg e] at h ⊢
        exact ih h
  have hb : (look (match sc with | some d => scrub d F.regs | none => F.regs) d).getD (.v .any) = .v p := by
    cases sc with
    | none => exact h
    | some s => exact key s _ h
  unfold Fr.after Fr.seto
  cases dst with
  | none => exact hb
  | some e =>
    simp only [Fr.set, Fr.get, look]
    rw [if_neg (fun e' => hd (by rw [e']))]
    exact hb

theorem after_get_self {F : Fr} {r : RV} {T : LS} {sc : Option Nat} {d : Nat} : (F.after (some d) r T sc).get d = r := by
  simp [Fr.after, Fr.seto, Fr.set, Fr.get, look]

theorem Fok.after {fx : Fx} {F : Fr} (h : Fok fx F) {dst : Option Nat} {r : RV} {T : LS} {sc : Option Nat} {b : Option Bool} (hb : ∀ b', b = some b' → r = .v (.s (.bool b'))) : Fok (setFx dst b fx) (F.after dst r T sc) := by
  intro d b' h'
  cases dst with
  | none =>
    have : look fx d = some b' := by cases b <;> exact h'
    exact after_get (by simp) (h d b' this)
  | some e =>
    cases b with
    | none =>
      obtain ⟨h1, h2⟩ := look_rm h'
      exact after_get (by simpa using h1) (h d b' h2)
    | some c =>
      simp only [setFx, look] at h'
      split at h'
      · rename_i e'; subst e'
        obtain rfl := Option.some.inj h'
        rw [after_get_self]; exact hb _ rfl
      · obtain ⟨h1, h2⟩ := look_rm h'
        exact after_get (by simpa using h1) (h d b' h2)

/-- A test. -/
def tst (fx : Fx) (F : Fr) (x : Operand) (A B : Fx → Prop) : Prop :=
  match x with
  | .tmp d => match look fx d with
    | some true => A fx
    | some false => B fx
    | none => match F.get d with
      | .v (.s (.bool b)) => br b (A ((d, true) :: fx)) (B ((d, false) :: fx))
      | _ => False
  | .const (.bool b) => br b (A fx) (B fx)
  | _ => False

theorem tst_ok {C : Cfg} {fx : Fx} {F : Fr} {x : Operand} {A B : Fx → Prop} (hf : Fok fx F) (h : tst fx F x A B) :
    ∃ b fx', F.ev C x = .v (.s (.bool b)) ∧ Fok fx' F ∧ ((b = true ∧ A fx') ∨ (b = false ∧ B fx')) ∧ (∀ d b', look fx d = some b' → look fx' d = some b') := by
  unfold tst at h
  split at h
  · rename_i d
    split at h
    · rename_i hl
      exact ⟨true, fx, hf d _ hl, hf, .inl ⟨rfl, h⟩, fun _ _ h => h⟩
    · rename_i hl
      exact ⟨false, fx, hf d _ hl, hf, .inr ⟨rfl, h⟩, fun _ _ h => h⟩
    · rename_i hl
      have ext : ∀ (b : Bool) (d' : Nat) (b' : Bool), look fx d' = some b' → look ((d, b) :: fx) d' = some b' := by
        intro b d' b' h'
        simp only [look]
        by_cases e : d = d'
        · subst e; rw [hl] at h'; cases h'
        · rw [if_neg e]; exact h'
      split at h
      · rename_i b hb
        rcases br_elim h with ⟨rfl, h⟩ | ⟨rfl, h⟩
        · exact ⟨true, _, hb, hf.cons hb, .inl ⟨rfl, h⟩, ext _⟩
        · exact ⟨false, _, hb, hf.cons hb, .inr ⟨rfl, h⟩, ext _⟩
      · exact h.elim
  · rename_i b
    rcases br_elim h with ⟨rfl, h⟩ | ⟨rfl, h⟩
    · exact ⟨true, fx, rfl, hf, .inl ⟨rfl, h⟩, fun _ _ h => h⟩
    · exact ⟨false, fx, rfl, hf, .inr ⟨rfl, h⟩, fun _ _ h => h⟩
  · exact h.elim

/-- Is an operation carried out? -/
def wantV (ops : Array Oper) (o : Oper) (fx : Fx) (F : Fr) (go skip : Fx → Prop) : Prop :=
  match o.guard with
  | none => go fx
  | some (j, want) => match (ops[j]?).bind (·.dst) with
    | none => False
    | some d => match look fx d with
      | some b => (match b == want with | true => go fx | false => skip fx)
      | none => match F.get d with
        | .v (.s (.bool b)) => (match want with
          | true => br b (go ((d, true) :: fx)) (skip ((d, false) :: fx))
          | false => br b (skip ((d, true) :: fx)) (go ((d, false) :: fx)))
        | .v (.s (.tuple _)) => skip fx
        | _ => False

theorem wantV_ok {ops : Array Oper} {o : Oper} {fx : Fx} {F : Fr} {go skip : Fx → Prop} (hf : Fok fx F) (h : wantV ops o fx F go skip) :
    ∃ b fx', wantedO ops o F = some b ∧ Fok fx' F ∧ ((b = true ∧ go fx') ∨ (b = false ∧ skip fx')) := by
  unfold wantV at h
  unfold wantedO
  split at h
  · rename_i hg
    exact ⟨true, fx, by rw [hg], hf, .inl ⟨rfl, h⟩⟩
  · rename_i j want hg
    rw [hg]
    simp only
    split at h
    · exact h.elim
    · rename_i d hd
      rw [hd]
      simp only
      split at h
      · rename_i b hl
        rw [hf d b hl]
        simp only
        split at h
        · rename_i e; exact ⟨true, fx, by rw [e], hf, .inl ⟨rfl, h⟩⟩
        · rename_i e; exact ⟨false, fx, by rw [e], hf, .inr ⟨rfl, h⟩⟩
      · split at h
        · rename_i b hb
          rw [hb]
          simp only
          split at h
          · rcases br_elim h with ⟨rfl, h⟩ | ⟨rfl, h⟩
            · exact ⟨true, _, rfl, hf.cons hb, .inl ⟨rfl, h⟩⟩
            · exact ⟨false, _, rfl, hf.cons hb, .inr ⟨rfl, h⟩⟩
          · rcases br_elim h with ⟨rfl, h⟩ | ⟨rfl, h⟩
            · exact ⟨false, _, rfl, hf.cons hb, .inr ⟨rfl, h⟩⟩
            · exact ⟨true, _, rfl, hf.cons hb, .inl ⟨rfl, h⟩⟩
        · rename_i t ht
          rw [ht]
          exact ⟨false, fx, rfl, hf, .inr ⟨rfl, h⟩⟩
        · exact h.elim

abbrev Asks := List (Nat × Ask)

/-- An operation. -/
def opV (C : Cfg) (call : CallFn) (f : FuncId) (a : Option Ask) (o : Oper) (fx : Fx) (F : Fr) (K : Fx → Option Bool → RV → LS → Option Nat → Prop) : Prop :=
  match o.op with
  | .move x => K fx (factOf fx x) (F.ev C x) F.st none
  | .assign x => K fx (factOf fx x) (F.ev C x) F.st none
  | .pick c x y => tst fx F c (fun fx => K fx (factOf fx x) (F.ev C x) F.st none) (fun fx => K fx (factOf fx y) (F.ev C y) F.st none)
  | _ => match a with
    | some a => askV C call o F a fun r T => K fx none r T none
    | none => match evalOp C call f o (F.ev C) F.st with
      | some (r, T, sc) => K fx none r T sc
      | none => False

theorem factOf_ok {C : Cfg} {fx : Fx} {F : Fr} (hf : Fok fx F) (x : Operand) : ∀ b, factOf fx x = some b → F.ev C x = .v (.s (.bool b)) := by
  intro b h
  unfold factOf at h
  split at h
  · exact hf _ _ h
  · cases h

theorem opV_ok {C : Cfg} {call : CallFn} {f : FuncId} {a : Option Ask} {o : Oper} {fx : Fx} {F : Fr} {K : Fx → Option Bool → RV → LS → Option Nat → Prop} (hf : Fok fx F) (h : opV C call f a o fx F K) :
    ∃ fx' b r T sc, evalOp C call f o (F.ev C) F.st = some (r, T, sc) ∧ Fok fx' F ∧ (∀ b', b = some b' → r = .v (.s (.bool b'))) ∧ K fx' b r T sc := by
  unfold opV at h
  split at h
  · rename_i x hop
    exact ⟨fx, _, _, _, _, by unfold evalOp; dsimp only; simp only [hop], hf, factOf_ok hf x, h⟩
  · rename_i x hop
    exact ⟨fx, _, _, _, _, by unfold evalOp; dsimp only; simp only [hop], hf, factOf_ok hf x, h⟩
  · rename_i c x y hop
    obtain ⟨b, fx', hb, hf', hk, _⟩ := tst_ok (C := C) hf h
    rcases hk with ⟨rfl, hk⟩ | ⟨rfl, hk⟩
    · exact ⟨fx', _, _, _, _, by unfold evalOp; dsimp only; simp only [hop, hb, RV.pv]; rfl, hf', factOf_ok hf' x, hk⟩
    · exact ⟨fx', _, _, _, _, by unfold evalOp; dsimp only; simp only [hop, hb, RV.pv]; rfl, hf', factOf_ok hf' y, hk⟩
  · split at h
    · obtain ⟨r, T, h1, h2⟩ := askV_ok (f := f) h
      exact ⟨fx, none, r, T, none, h1, hf, by simp, h2⟩
    · split at h
      · rename_i he
        exact ⟨fx, none, _, _, _, he, hf, by simp, h⟩
      · exact h.elim

def vcOps (C : Cfg) (call : CallFn) (f : FuncId) (asks : Asks) (rid : Nat) (ops : Array Oper) : List Nat → Fx → Fr → (Fx → Fr → Prop) → Prop
  | [], fx, F, K => K fx F
  | i :: r, fx, F, K => match ops[i]? with
    | none => vcOps C call f asks rid ops r fx F K
    | some o => match (o.dst.any fun d => F.nt ≤ d) with
      | true => False
      | false => wantV ops o fx F
        (fun fx => opV C call f (look asks (rid * 1000 + i)) o fx F fun fx b p T sc => vcOps C call f asks rid ops r (setFx o.dst b fx) (F.after o.dst p T sc) K)
        (fun fx => vcOps C call f asks rid ops r (rmFx o.dst fx) (F.seto o.dst (.v (.s undef))) K)

theorem seto_after (F : Fr) (dst : Option Nat) (r : RV) : F.seto dst r = F.after dst r F.st none := by
  cases dst <;> rfl

theorem vcOps_ok {C : Cfg} {call : CallFn} {f : FuncId} {asks : Asks} {rid : Nat} {ops : Array Oper} : ∀ (is : List Nat) (fx : Fx) (F : Fr) (K : Fx → Fr → Prop), Fok fx F →
    vcOps C call f asks rid ops is fx F K → ∃ fx' F', runOps C call f ops is F = some F' ∧ Fok fx' F' ∧ K fx' F'
  | [], fx, F, K, hf, h => ⟨fx, F, rfl, hf, h⟩
  | i :: r, fx, F, K, hf, h => by
    simp only [vcOps] at h
    simp only [runOps]
    cases ho : ops[i]? with
    | none => rw [ho] at h; exact vcOps_ok r fx F K hf h
    | some o =>
      rw [ho] at h
      simp only at h ⊢
      split at h
      · exact h.elim
      · rename_i hn
        rw [if_neg (by rw [hn]; simp)]
        obtain ⟨b, fx1, hw, hf1, hk⟩ := wantV_ok hf h
        rw [hw]
        rcases hk with ⟨rfl, hk⟩ | ⟨rfl, hk⟩
        · simp only
          obtain ⟨fx2, b, p, T, sc, he, hf2, hb, hk⟩ := opV_ok hf1 hk
          rw [he]
          exact vcOps_ok r _ _ K (hf2.after hb) hk
        · simp only
          refine vcOps_ok r _ _ K ?_ hk
          rw [seto_after]
          have := hf1.after (dst := o.dst) (r := .v (.s undef)) (T := F.st) (sc := none) (b := none) (by simp)
          cases hd : o.dst with
          | none => rw [hd] at this; exact this
          | some d => rw [hd] at this; exact this

/-- What an operation does in a region whose order is open. -/
def effV (C : Cfg) (o : Oper) (ρ : Operand → RV) (T T1 : LS) : Option (Eff × List Key) :=
  match o.op with
  | .makeSlice _ _ _ => match T1.S.bs with
    | (b, bx) :: _ => some (.add b bx, [.N])
    | [] => none
  | .call c => match c.callee with
    | .builtin .append => match c.args.toList, c.argTypes.toList with
      | [s, x], _ :: _ => match ρ s with
        | .v (.bsl b _ _ _) => match T1.S.get b with
          | some bx => some (.box b bx, .B b :: keyB (ρ x))
          | none => none
        | _ => match T1.S.bs with
          | (b, bx) :: _ => some (.add b bx, .N :: keyB (ρ x))
          | [] => none
      | _, _ => none
    | .builtin .copy => match c.args.toList, c.argTypes.toList with
      | [d, x], _ :: _ => match ρ d with
        | .v (.bsl b _ _ _) => match T1.S.get b with
          | some bx => some (.box b bx, .B b :: keyB (ρ x))
          | none => none
        | _ => none
      | _, _ => none
    | _ => effO C o ρ T T1
  | _ => effO C o ρ T T1

theorem effV_ok {C : Cfg} {call : CallFn} {f : FuncId} {o : Oper} {F : Fr} {r : RV} {T1 : LS} (he : evalOp C call f o (F.ev C) F.st = some (r, T1, none)) : effO C o (F.ev C) F.st T1 = effV C o (F.ev C) F.st T1 := by
  unfold effV
  split
  · rename_i t n c hop
    unfold evalOp at he
    dsimp only at he
    simp only [hop] at he
    obtain ⟨⟨p, T'⟩, h1, h2⟩ := Option.map_eq_some_iff.1 he
    obtain ⟨rfl, h3⟩ := Prod.mk.inj h2
    obtain ⟨rfl, _⟩ := Prod.mk.inj h3
    unfold effO
    dsimp only
    simp only [hop, h1]
    cases T'.S.bs <;> rfl
  · rename_i c hop
    split
    · rename_i hc
      unfold evalOp at he
      dsimp only at he
      simp only [hop, hc] at he
      unfold effO
      dsimp only
      simp only [hop, hc]
      split at he
      · rename_i s x t u rest ha ht
        have key : ∃ p, appendO C.P F.st t (F.ev C s).pv (F.ev C x).pv = some (p, T1) := by
          split at he
          · obtain ⟨⟨p, T'⟩, h1, h2⟩ := Option.map_eq_some_iff.1 he
            obtain ⟨rfl, h3⟩ := Prod.mk.inj h2
            obtain ⟨rfl, _⟩ := Prod.mk.inj h3
            exact ⟨p, h1⟩
          · obtain ⟨⟨p, T'⟩, h1, h2⟩ := Option.map_eq_some_iff.1 he
            obtain ⟨rfl, h3⟩ := Prod.mk.inj h2
            obtain ⟨rfl, _⟩ := Prod.mk.inj h3
            exact ⟨p, h1⟩
          · cases he
        obtain ⟨p, hp⟩ := key
        simp only [ha, ht, hp]
        cases hs : F.ev C s with
        | v q => cases q <;> rfl
        | loc d off => rfl
      · cases he
    · rename_i hc
      unfold evalOp at he
      dsimp only at he
      simp only [hop, hc] at he
      unfold effO
      dsimp only
      simp only [hop, hc]
      split at he
      · rename_i d x t rest ha ht
        obtain ⟨⟨p, T'⟩, h1, h2⟩ := Option.map_eq_some_iff.1 he
        obtain ⟨rfl, h3⟩ := Prod.mk.inj h2
        obtain ⟨rfl, _⟩ := Prod.mk.inj h3
        simp only [ha, ht, h1]
        cases hs : F.ev C d with
        | v q => cases q <;> rfl
        | loc d off => rfl
      · cases he
    · rfl
  · rfl

def vcTr (C : Cfg) (call : CallFn) (f : FuncId) (asks : Asks) (rid : Nat) (ops : Array Oper) : List Oper → Nat → Fx → Fr → (Fx → Fr → List Ent → Prop) → Prop
  | [], _, fx, F, K => K fx F []
  | o :: r, i, fx, F, K => match (o.dst.any fun d => F.nt ≤ d) with
    | true => False
    | false => wantV ops o fx F
      (fun fx => opV C call f (look asks (rid * 1000 + i)) o fx F fun fx b p T1 sc => match sc with
        | some _ => False
        | none => match effV C o (F.ev C) F.st T1 with
          | none => False
          | some (e, rd) => vcTr C call f asks rid ops r (i + 1) (setFx o.dst b fx) ((⟨F, true, p, e, rd⟩ : Ent).next o.dst) fun fx F' l => K fx F' (⟨F, true, p, e, rd⟩ :: l))
      (fun fx => vcTr C call f asks rid ops r (i + 1) (rmFx o.dst fx) ((⟨F, false, .v (.s undef), .none, []⟩ : Ent).next o.dst) fun fx F' l => K fx F' (⟨F, false, .v (.s undef), .none, []⟩ :: l))

theorem next_after (x : Ent) (dst : Option Nat) : x.next dst = x.F.after dst x.r (x.e.app x.F.st) none := by
  cases dst <;> rfl

theorem vcTr_ok {C : Cfg} {call : CallFn} {f : FuncId} {asks : Asks} {rid : Nat} {ops : Array Oper} : ∀ (os : List Oper) (i : Nat) (fx : Fx) (F : Fr) (K : Fx → Fr → List Ent → Prop), Fok fx F →
    vcTr C call f asks rid ops os i fx F K → ∃ fx' F' l, traceOps C call f ops os F = some (l, F') ∧ Fok fx' F' ∧ K fx' F' l
  | [], i, fx, F, K, hf, h => ⟨fx, F, [], rfl, hf, h⟩
  | o :: r, i, fx, F, K, hf, h => by
    simp only [vcTr] at h
    simp only [traceOps]
    split at h
    · exact h.elim
    · rename_i hn
      rw [if_neg (by rw [hn]; simp)]
      obtain ⟨b, fx1, hw, hf1, hk⟩ := wantV_ok hf h
      rw [hw]
      rcases hk with ⟨rfl, hk⟩ | ⟨rfl, hk⟩
      · simp only
        obtain ⟨fx2, b, p, T, sc, he, hf2, hb, hk⟩ := opV_ok hf1 hk
        rw [he]
        split at hk
        · exact hk.elim
        · simp only
          rw [effV_ok he]
          split at hk
          · exact hk.elim
          · rename_i e rd hv
            rw [hv]
            simp only [Option.map_some]
            obtain ⟨fx', F', l, h1, h2, h3⟩ := vcTr_ok r _ _ _ _ (by rw [next_after]; exact hf2.after hb) hk
            rw [h1]
            exact ⟨fx', F', _, rfl, h2, h3⟩
      · simp only
        have hf2 : Fok (rmFx o.dst fx1) ((⟨F, false, .v (.s undef), .none, []⟩ : Ent).next o.dst) := by
          rw [next_after]
          have := hf1.after (dst := o.dst) (r := .v (.s undef)) (T := (Eff.none).app F.st) (sc := none) (b := none) (by simp)
          cases hd : o.dst with
          | none => rw [hd] at this; exact this
          | some d => rw [hd] at this; exact this
        obtain ⟨fx', F', l, h1, h2, h3⟩ := vcTr_ok r _ _ _ _ hf2 hk
        rw [h1]
        exact ⟨fx', F', _, rfl, h2, h3⟩

def vcDraw (C : Cfg) (call : CallFn) (f : FuncId) (asks : Asks) (rid : Nat) (ops : Array Oper) (fx : Fx) (F : Fr) (K : Fx → Fr → Prop) : Prop :=
  match (C.P.follows .mixedOrders || !Region.departs ops || (rankB .text ops && rankB .gc ops)) && edgesB ops && tmpsB ops with
  | true => vcTr C call f asks rid ops ops.toList 0 fx F fun fx F' l => match keysB ops l with
    | true => K fx F'
    | false => False
  | false => False

theorem vcDraw_ok {C : Cfg} {call : CallFn} {f : FuncId} {asks : Asks} {rid : Nat} {ops : Array Oper} {fx : Fx} {F : Fr} {K : Fx → Fr → Prop} (hf : Fok fx F) (h : vcDraw C call f asks rid ops fx F K) :
    ∃ fx' F', runDraw C call f ops F = some F' ∧ Fok fx' F' ∧ K fx' F' := by
  unfold vcDraw at h
  unfold runDraw
  split at h
  · rename_i hc
    rw [if_pos hc]
    obtain ⟨fx', F', l, h1, h2, h3⟩ := vcTr_ok _ _ _ _ _ hf h
    rw [h1]
    split at h3
    · rename_i hk
      exact ⟨fx', F', by simp [hk], h2, h3⟩
    · exact h3.elim
  · exact h.elim

/-- A loop ends. -/
def Ends (C : Cfg) (call : CallFn) (f : FuncId) (n : Nat) (c : Code) (m : Nat) (F : Fr) (K : X → Fr → Prop) : Prop :=
  ∃ x F', iter C f (exec C call f n c) m F = some (x, F') ∧ K x F'

abbrev KX := X → Fx → Fr → Prop
def onX (A : Fx → Fr → Prop) (K : KX) : KX := fun x fx F => match x with
  | .normal => A fx F
  | .exit j => K (.exit j) fx F
  | .ret => K .ret fx F
def outX (id : Nat) (K : KX) : KX := fun x fx F => match x with
  | .normal => K .normal fx F
  | .exit j => (match j == id with | true => K .normal fx F | false => K (.exit j) fx F)
  | .ret => K .ret fx F

def vcC (C : Cfg) (call : CallFn) (f : FuncId) (n : Nat) (asks : Asks) : Code → Fx → Fr → KX → Prop
  | .skip, fx, F, K => K .normal fx F
  | .label _, fx, F, K => K .normal fx F
  | .region rid ops draw, fx, F, K => match draw with
    | true => vcDraw C call f asks rid ops fx F fun fx F => K .normal fx F
    | false => vcOps C call f asks rid ops (List.range ops.size) fx F fun fx F => K .normal fx F
  | .seq a b, fx, F, K => vcC C call f n asks a fx F (onX (fun fx F => vcC C call f n asks b fx F K) K)
  | .cond c a b, fx, F, K => tst fx F c (fun fx => vcC C call f n asks a fx F K) (fun fx => vcC C call f n asks b fx F K)
  | .block id c, fx, F, K => vcC C call f n asks c fx F (outX id K)
  | .loop c, _, F, K => Ends C call f n c n (F.clear C f) fun x F => K x [] F
  | .exit id, fx, F, K => K (.exit id) fx F
  | .ret, fx, F, K => K .ret fx F
  | _, _, _, _ => False

theorem vcC_ok {C : Cfg} {call : CallFn} {f : FuncId} {n : Nat} {asks : Asks} : ∀ (c : Code) (fx : Fx) (F : Fr) (K : KX), Fok fx F → vcC C call f n asks c fx F K →
    ∃ x fx' F', exec C call f n c F = some (x, F') ∧ Fok fx' F' ∧ K x fx' F' := by
  intro c
  induction c with
  | skip => intro fx F K hf h; exact ⟨_, _, _, rfl, hf, h⟩
  | label _ => intro fx F K hf h; exact ⟨_, _, _, rfl, hf, h⟩
  | region rid ops draw =>
    intro fx F K hf h
    simp only [vcC] at h
    simp only [exec]
    cases draw with
    | true =>
      obtain ⟨fx', F', h1, h2, h3⟩ := vcDraw_ok hf h
      exact ⟨.normal, fx', F', by simp [h1], h2, h3⟩
    | false =>
      obtain ⟨fx', F', h1, h2, h3⟩ := vcOps_ok _ _ _ _ hf h
      exact ⟨.normal, fx', F', by simp [h1], h2, h3⟩
  | seq a b iha ihb =>
    intro fx F K hf h
    simp only [vcC] at h
    simp only [exec]
    obtain ⟨x, fx', F', h1, h2, h3⟩ := iha _ _ _ hf h
    rw [h1]
    cases x with
    | normal => exact ihb _ _ _ h2 h3
    | exit j => exact ⟨_, _, _, rfl, h2, h3⟩
    | ret => exact ⟨_, _, _, rfl, h2, h3⟩
  | cond c a b iha ihb =>
    intro fx F K hf h
    simp only [vcC] at h
    simp only [exec]
    obtain ⟨t, fx', hb, hf', hk, _⟩ := tst_ok (C := C) hf h
    rw [hb]
    rcases hk with ⟨rfl, hk⟩ | ⟨rfl, hk⟩
    · exact iha _ _ _ hf' hk
    · exact ihb _ _ _ hf' hk
  | block id c ih =>
    intro fx F K hf h
    simp only [vcC] at h
    simp only [exec]
    obtain ⟨x, fx', F', h1, h2, h3⟩ := ih _ _ _ hf h
    rw [h1]
    cases x with
    | normal => exact ⟨_, _, _, rfl, h2, h3⟩
    | exit j =>
      simp only [outX] at h3
      simp only
      split at h3
      · rename_i e
        rw [if_pos (by simpa using e)]
        exact ⟨_, _, _, rfl, h2, h3⟩
      · rename_i e
        rw [if_neg (by simpa using e)]
        exact ⟨_, _, _, rfl, h2, h3⟩
    | ret => exact ⟨_, _, _, rfl, h2, h3⟩
  | loop c ih =>
    intro fx F K hf h
    simp only [vcC] at h
    simp only [exec]
    obtain ⟨x, F', h1, h2⟩ := h
    rw [iter_clear] at h1
    exact ⟨x, [], F', h1, Fok.nil F', h2⟩
  | exit id => intro fx F K hf h; exact ⟨_, _, _, rfl, hf, h⟩
  | ret => intro fx F K hf h; exact ⟨_, _, _, rfl, hf, h⟩
  | _ => intro fx F K hf h; exact h.elim

/-- What goes on behind a round. -/
def stepK (C : Cfg) (call : CallFn) (f : FuncId) (n : Nat) (c : Code) (m : Nat) (K : X → Fr → Prop) : KX := fun x _ F => match x with
  | .normal => Ends C call f n c m (F.clear C f) K
  | .exit j => K (.exit j) F
  | .ret => K .ret F

/-- A round. -/
theorem Ends_step {C : Cfg} {call : CallFn} {f : FuncId} {n : Nat} {c : Code} {m : Nat} {F : Fr} {K : X → Fr → Prop} {asks : Asks} (h : vcC C call f n asks c [] (F.clear C f) (stepK C call f n c m K)) :
    Ends C call f n c (m + 1) F K := by
  obtain ⟨x, fx', F', h1, h2, h3⟩ := vcC_ok _ _ _ _ (Fok.nil _) h
  cases x with
  | normal =>
    obtain ⟨y, F2, h4, h5⟩ := h3
    refine ⟨y, F2, ?_, h5⟩
    simp only [iter, h1]
    rw [iter_clear] at h4
    exact h4
  | exit j => exact ⟨_, _, by simp only [iter, h1], h3⟩
  | ret => exact ⟨_, _, by simp only [iter, h1], h3⟩

theorem Ends.mono {C : Cfg} {call : CallFn} {f : FuncId} {n : Nat} {c : Code} {m : Nat} {F : Fr} {K K' : X → Fr → Prop} (h : Ends C call f n c m F K) (hk : ∀ x F, K x F → K' x F) : Ends C call f n c m F K' := by
  obtain ⟨x, F', h1, h2⟩ := h
  exact ⟨x, F', h1, hk _ _ h2⟩

/-- The loop at a place in code; what goes on behind it. -/
def codeAt : Code → List Nat → Code
  | .seq a b, i :: p => match i with
    | 0 => codeAt a p
    | _ => codeAt b p
  | .cond _ a b, i :: p => match i with
    | 0 => codeAt a p
    | _ => codeAt b p
  | .block _ c, _ :: p => codeAt c p
  | .loop c, p => match p with
    | [] => c
    | _ :: p => codeAt c p
  | _, _ => .skip

def contC (C : Cfg) (call : CallFn) (f : FuncId) (n : Nat) (asks : Asks) : Code → List Nat → List Nat → KX → X → Fr → Prop
  | .seq a b, i :: p, ms, K => match i with
    | 0 => contC C call f n asks a p ms (onX (fun fx F => vcC C call f n asks b fx F K) K)
    | _ => contC C call f n asks b p ms K
  | .cond _ a b, i :: p, ms, K => match i with
    | 0 => contC C call f n asks a p ms K
    | _ => contC C call f n asks b p ms K
  | .block id c, _ :: p, ms, K => contC C call f n asks c p ms (outX id K)
  | .loop c, p, ms, K => match p, ms with
    | _ :: p, m :: ms => contC C call f n asks c p ms (stepK C call f n c m fun x F => K x [] F)
    | _, _ => fun x F => K x [] F
  | _, _, _, K => fun x F => K x [] F

/-- What a call comes to. -/
def Ret (C : Cfg) (n : Nat) (f : FuncId) (args : List PV) (S : Store) (Q : PV → Store → Prop) : Prop := ∃ r S', run C n f args S = some (r, S') ∧ Q r S'

def retK (C : Cfg) (fn : Func) (Q : PV → Store → Prop) : KX := fun x _ F => match x with
  | .exit _ => False
  | .normal => (match resultsO C fn F with | some r => Q r F.st.S | none => False)
  | .ret => (match resultsO C fn F with | some r => Q r F.st.S | none => False)

def bodyOf (fn : Func) : Code := fn.body.getD .skip

def vcRun (C : Cfg) (n : Nat) (f : FuncId) (fn : Func) (asks : Asks) (args : List PV) (S : Store) (Q : PV → Store → Prop) : Prop :=
  vcC C (callF C (run C n)) f n asks (bodyOf fn) [] { regs := begin args 0, st := ⟨[], S⟩, nt := fn.ntmps } (retK C fn Q)

theorem vcRun_ok {C : Cfg} {n : Nat} {f : FuncId} {fn : Func} {asks : Asks} {args : List PV} {S : Store} {Q : PV → Store → Prop} (hi : C.intr f = none) (hf : C.P.funcs[f]? = some fn) (hb : fn.body.isSome = true) (hn : decide (fn.name = "runtime.NumGoroutine") = false)
    (h : vcRun C n f fn asks args S Q) : Ret C (n + 1) f args S Q := by
  obtain ⟨c, hc⟩ := Option.isSome_iff_exists.1 hb
  have hc' : bodyOf fn = c := by simp [bodyOf, hc]
  unfold vcRun at h
  rw [hc'] at h
  obtain ⟨x, fx', F', h1, h2, h3⟩ := vcC_ok _ _ _ _ (Fok.nil _) h
  unfold Ret run
  simp only [hi, hf, hc]
  rw [if_neg (of_decide_eq_false hn)]
  cases x with
  | exit j => exact h3.elim
  | normal =>
    simp only [retK] at h3
    rw [h1]
    simp only
    split at h3
    · rename_i r hr
      exact ⟨r, F'.st.S, by simp [hr], h3⟩
    · exact h3.elim
  | ret =>
    simp only [retK] at h3
    rw [h1]
    simp only
    split at h3
    · rename_i r hr
      exact ⟨r, F'.st.S, by simp [hr], h3⟩
    · exact h3.elim

theorem vcRun_eq {T : Prop} {C : Cfg} {n : Nat} {f : FuncId} {fn : Func} {asks : Asks} {args : List PV} {S : Store} {Q : PV → Store → Prop} (hi : C.intr f = none) (hf : C.P.funcs[f]? = some fn) (hb : fn.body.isSome = true) (hn : decide (fn.name = "runtime.NumGoroutine") = false)
    (e : T = vcRun C n f fn asks args S Q) (h : T) : Ret C (n + 1) f args S Q := vcRun_ok hi hf hb hn (e ▸ h)
theorem Ends_eq {T : Prop} {C : Cfg} {call : CallFn} {f : FuncId} {n : Nat} {c : Code} {m : Nat} {F : Fr} {K : X → Fr → Prop} {asks : Asks} (e : T = vcC C call f n asks c [] (F.clear C f) (stepK C call f n c m K)) (h : T) :
    Ends C call f n c (m + 1) F K := Ends_step (asks := asks) (e ▸ h)

theorem Ret.eq {C : Cfg} {n : Nat} {f : FuncId} {args : List PV} {S S' : Store} {r : PV} (h : Ret C n f args S fun p T => p = r ∧ T = S') : run C n f args S = some (r, S') := by
  obtain ⟨p, T, h1, rfl, rfl⟩ := h
  exact h1
end Go.Pvm
