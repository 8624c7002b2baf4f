/-
  A part of the proof: Pv12.
-/
import Derived.Test.YtmjnfdjhaopeiaaGreatDoorPv13
/-
  PVM, part 12: calls.
-/
namespace Go.Pvm
open Go

theorem mapM_some {α β : Type} (g : α → Option β) : ∀ (l : List α) (r : List β), l.mapM g = some r → l.length = r.length ∧ ∀ (i : Nat) (x : α) (y : β), l[i]? = some x → r[i]? = some y → g x = some y
  | [], r, h => by
    simp only [List.mapM_nil, Option.pure_def] at h
    obtain rfl := Option.some.inj h
    simp
  | x :: l, r, h => by
    simp only [List.mapM_cons, Option.bind_eq_bind, Option.bind_eq_some_iff, Option.pure_def] at h
    obtain ⟨y, hy, r', hr, he⟩ := h
    obtain rfl := Option.some.inj he
    obtain ⟨h1, h2⟩ := mapM_some g l r' hr
    refine ⟨by simp [h1], fun i a b ha hb => ?_⟩
    cases i with
    | zero => simp at ha hb; subst ha hb; exact hy
    | succ i => exact h2 i a b (by simpa using ha) (by simpa using hb)

/-- What is told of boxes as they are now. -/
theorem frz_sound {E : Env} {S : Store} (hS : E.S = S) (hI : Inv E) {G : Nat → Prop} (hG : ∀ k, E.G k → G k) (hB : ∀ b bx k, S.get b = some bx → E.sg b = some k → G k) :
    ∀ (n : Nat) (p q : PV) (v : Value), frz S n p = some q → W E p v → Vp E.w G q v
  | 0, p, q, v, h, _ => by simp [frz] at h
  | n + 1, p, q, v, h, hv => by
    have ih := frz_sound hS hI hG hB n
    have hmono : ∀ p v, Vp E.w E.G p v → Vp E.w G p v := Vp.mono fun k hk => ⟨hG k hk, rfl⟩
    have many : ∀ cs ps vs, cs.mapM (frz S n) = some ps → WL E cs vs → VpL E.w G ps vs := by
      intro cs ps vs h1 h2
      obtain ⟨a1, a2⟩ := mapM_some _ _ _ h1
      obtain ⟨b1, b2⟩ := WL_iff.1 h2
      refine VpL_iff.2 ⟨by omega, fun i p v hp hv => ?_⟩
      have hi : i < cs.length := by
        rcases Nat.lt_or_ge i ps.length with h' | h'
        · omega
        · simp [List.getElem?_eq_none h'] at hp
      exact ih cs[i] p v (a2 i cs[i] p (by simp [hi]) hp) (b2 i cs[i] v (by simp [hi]) hv)
    cases p with
    | any => simp [frz] at h
    | s x => simp only [frz] at h; obtain rfl := Option.some.inj h; exact hv
    | sl u m cs => simp only [frz] at h; obtain rfl := Option.some.inj h; exact hmono _ _ hv
    | cel cs off => simp only [frz] at h; obtain rfl := Option.some.inj h; exact hmono _ _ hv
    | agg cs =>
      simp only [frz] at h
      obtain ⟨ps, h1, rfl⟩ := Option.map_eq_some_iff.1 h
      obtain ⟨vs, rfl, h2⟩ := hv
      exact ⟨vs, rfl, many cs ps vs h1 h2⟩
    | tup cs =>
      simp only [frz] at h
      obtain ⟨ps, h1, rfl⟩ := Option.map_eq_some_iff.1 h
      obtain ⟨vs, rfl, h2⟩ := hv
      exact ⟨vs, rfl, many cs ps vs h1 h2⟩
    | ptr b ver off => simp [frz] at h
    | fn f a b => simp [frz] at h
    | iface t p => simp [frz] at h
    | bsl b ver off m =>
      simp only [frz] at h
      split at h
      · rename_i bx hb
        split at h
        · rename_i hc
          obtain ⟨hver, hle⟩ := hc
          obtain ⟨ps, h1, rfl⟩ := Option.map_eq_some_iff.1 h
          have hb' : E.S.get b = some bx := by rw [hS]; exact hb
          obtain ⟨_, g3⟩ := hv
          obtain ⟨_, g5⟩ := g3 bx hb'
          obtain ⟨A, c, rfl, hnc, hzb, hA⟩ := g5 hver
          obtain ⟨_, _, b3, b4⟩ := hI.box b bx hb'
          obtain ⟨a1, a2⟩ := mapM_some _ _ _ h1
          refine ⟨A, c, rfl, hnc, fun e => (by cases e), ?_⟩
          cases hk : E.sg b with
          | none =>
            left
            have h0 := (b4 hk).1
            apply List.eq_nil_of_length_eq_zero
            rw [← a1, h0]; simp
          | some k =>
            right
            refine ⟨k, off, hA k hk, hB b bx k hb hk, VpC_iff.2 fun i p hp => ?_⟩
            have hi : i < ((bx.cs.drop off).take (m * bx.esz)).length := by
              rcases Nat.lt_or_ge i ps.length with h' | h'
              · omega
              · simp [List.getElem?_eq_none h'] at hp
            have hi2 : i < m * bx.esz := by rw [List.length_take] at hi; omega
            have hcell : bx.cs[off + i]? = some ((bx.cs.drop off).take (m * bx.esz))[i] := by
              rw [← List.getElem?_drop, ← List.getElem?_take_of_lt hi2, List.getElem?_eq_getElem hi]
            obtain ⟨u, u1, u2⟩ := (b3 k hk).cell hcell
            exact ⟨u, u1, ih _ p u (a2 i _ p (List.getElem?_eq_getElem hi) hp) u2⟩
        · cases h
      · cases h

/-- The boxes stand aside while a call runs that needs none. -/
theorem Inv.bare {E : Env} (G : Nat → Prop) (hG : ∀ k, G k → k < E.w.heap.size) : Inv { E with S := ⟨[], 0⟩, L := [], G := G } := by
  have hm : ∀ k, ¬ Mod { E with S := ⟨[], 0⟩, L := [], G := G } k := by
    intro k hm
    rcases hm with ⟨b, bx, hb, _⟩ | ⟨d, cs, hd, _⟩
    · cases hb
    · cases hd
  exact ⟨fun k hk => ⟨hG k hk, hm k⟩, fun b bx hb => (by cases hb), fun b b' bx bx' k hb => (by cases hb), fun d cs hd => (by cases hd), fun d d' cs cs' hd => (by cases hd), fun b bx d cs hb => (by cases hb)⟩

/-- Behind a call that had no boxes. -/
theorem back {E E1 : Env} {G G2 : Nat → Prop} (h : Inv E) (he : Ext { E with S := ⟨[], 0⟩, L := [], G := G } E1)
    (hG : ∀ k, E.G k → G2 k) (hG2 : ∀ k, G2 k → E.G k ∨ (E.w.heap.size ≤ k ∧ k < E1.w.heap.size)) :
    Ext E { E with w := E1.w, G := G2 } ∧ Inv { E with w := E1.w, G := G2 } := by
  have hm0 : ∀ k, ¬ Mod { E with S := ⟨[], 0⟩, L := [], G := G } k := by
    intro k hm
    rcases hm with ⟨b, bx, hb, _⟩ | ⟨d, cs, hd, _⟩
    · cases hb
    · cases hd
  have hext : Ext E { E with w := E1.w, G := G2 } :=
    ⟨he.os, he.tape, he.output, he.size, fun k hk _ => he.keep k hk (hm0 k), hG, fun k hk => (hG2 k hk).elim .inl (fun e => .inr (.inl e.1)), fun k hm => .inr hm, Nat.le_refl _,
      fun _ bx' _ hx => ⟨bx', hx, fun _ => ⟨rfl, rfl, rfl⟩, Nat.le_refl _⟩⟩
  have hle := hext.le h
  have hsz : E.w.heap.size ≤ E1.w.heap.size := he.size
  refine ⟨hext, fun k hk => ?_, fun b bx hb => ?_, h.inj, fun d cs hd => (h.loc d cs hd).mono hle (he.keep _ (h.loc d cs hd).lt (hm0 _)), h.linj, h.apart⟩
  · rcases hG2 k hk with a | a
    · exact ⟨Nat.lt_of_lt_of_le (h.gam k a).1 hsz, (h.gam k a).2⟩
    · exact ⟨a.2, fun hm => by have := Mod.lt h hm; omega⟩
  · obtain ⟨g1, g2, g3, g4⟩ := h.box b bx hb
    exact ⟨g1, g2, fun k hk => (g3 k hk).mono hle (he.keep k (g3 k hk).lt (hm0 k)), g4⟩

theorem callF_sound {C : Cfg} {rn : FuncId → List PV → Store → Option (PV × Store)} (hrn : CallOK C rn) : CallOK C (callF C rn) := by
  intro g args S r S' h E hS hL hI hG vs hv
  unfold callF at h
  split at h
  · exact hrn g args S r S' h E hS hL hI hG vs hv
  · split at h
    · rename_i hp
      obtain ⟨⟨r0, S1⟩, h1, h2⟩ := Option.bind_eq_some_iff.1 h
      obtain ⟨r1, h3, h4⟩ := Option.map_eq_some_iff.1 h2
      obtain ⟨rfl, rfl⟩ := Prod.mk.inj h4
      have hv0 : WL { E with S := ⟨[], 0⟩, L := [], G := E.G } args vs := WL_of_VpL (E := { E with S := ⟨[], 0⟩, L := [], G := E.G }) _ _ (VpL_of_WL (E := E) args vs hp hv)
      obtain ⟨hf, hc⟩ := hrn g args ⟨[], 0⟩ r0 S1 h1 { E with S := ⟨[], 0⟩, L := [], G := E.G } rfl rfl (Inv.bare E.G fun k hk => (hI.gam k hk).1) hG vs hv0
      refine ⟨hf, hc.mono ?_⟩
      rintro e w' ⟨v, E1, rfl, rfl, k1, k2, k3, k4, k5⟩
      have hm0 : ∀ k, ¬ Mod { E with S := ⟨[], 0⟩, L := [], G := E.G } k := by
        intro k hm
        rcases hm with ⟨b, bx, hb, _⟩ | ⟨d, cs, hd, _⟩
        · cases hb
        · cases hd
      let G2 : Nat → Prop := fun k => E1.G k ∨ ∃ b bx, E1.S.get b = some bx ∧ E1.sg b = some k
      have hfz := frz_sound (E := E1) (S := S1) k1 k4 (G := G2) (fun k hk => .inl hk) (fun b bx k hb hk => .inr ⟨b, bx, by rw [k1]; exact hb, hk⟩) 9 r0 r1 v h3 k5
      obtain ⟨q1, q2⟩ := back (G2 := G2) hI k3 (fun k hk => .inl (k3.gle k hk)) (fun k hk => by
        rcases hk with hk | ⟨b, bx, hb, hk⟩
        · rcases k3.gam k hk with a | a | a
          · exact .inl a
          · exact .inr ⟨a, (k4.gam k hk).1⟩
          · exact absurd a (hm0 k)
        · have hm : Mod E1 k := .inl ⟨b, bx, hb, hk⟩
          rcases k3.mod k hm with a | a
          · exact .inr ⟨a, Mod.lt k4 hm⟩
          · exact absurd a (hm0 k))
      exact ⟨v, { E with w := E1.w, G := G2 }, rfl, rfl, hS, hL, q1, q2, W_of_Vp (E := { E with w := E1.w, G := G2 }) _ _ hfz⟩
    · split at h
      · rename_i as has
        obtain ⟨⟨r0, S1⟩, h1, h2⟩ := Option.bind_eq_some_iff.1 h
        obtain ⟨r1, h3, h4⟩ := Option.bind_eq_some_iff.1 h2
        split at h4
        · rename_i hflat
          obtain ⟨rfl, rfl⟩ := Prod.mk.inj (Option.some.inj h4)
          let G1 : Nat → Prop := fun k => E.G k ∨ ∃ b bx, E.S.get b = some bx ∧ E.sg b = some k
          have hG1 : ∀ k, G1 k → k < E.w.heap.size := by
            rintro k (hk | ⟨b, bx, hb, hk⟩)
            · exact (hI.gam k hk).1
            · exact Mod.lt hI (.inl ⟨b, bx, hb, hk⟩)
          have hv0 : WL { E with S := ⟨[], 0⟩, L := [], G := G1 } as vs := by
            obtain ⟨a1, a2⟩ := mapM_some _ _ _ has
            obtain ⟨b1, b2⟩ := WL_iff.1 hv
            refine WL_iff.2 ⟨by omega, fun i p v hp hpv => ?_⟩
            have hi : i < args.length := by
              rcases Nat.lt_or_ge i as.length with h' | h'
              · omega
              · simp [List.getElem?_eq_none h'] at hp
            have := frz_sound (E := E) (S := S) hS hI (G := G1) (fun k hk => .inl hk) (fun b bx k hb hk => .inr ⟨b, bx, by rw [hS]; exact hb, hk⟩) 9 args[i] p v (a2 i _ p (by simp [hi]) hp) (b2 i _ v (by simp [hi]) hpv)
            exact W_of_Vp (E := { E with S := ⟨[], 0⟩, L := [], G := G1 }) _ _ this
          have hgl : Glob C { E with S := ⟨[], 0⟩, L := [], G := G1 } := fun g cs hg => Vp.mono (fun k hk => ⟨.inl hk, rfl⟩) _ _ (hG g cs hg)
          obtain ⟨hf, hc⟩ := hrn g as ⟨[], 0⟩ r0 S1 h1 { E with S := ⟨[], 0⟩, L := [], G := G1 } rfl rfl (Inv.bare G1 hG1) hgl vs hv0
          refine ⟨hf, hc.mono ?_⟩
          rintro e w' ⟨v, E1, rfl, rfl, k1, k2, k3, k4, k5⟩
          have hfz := frz_sound (E := E1) (S := S1) k1 k4 (G := fun _ => True) (fun k hk => trivial) (fun b bx k hb hk => trivial) 9 r0 r1 v h3 k5
          obtain ⟨q1, q2⟩ := back (G2 := E.G) hI k3 (fun k hk => hk) (fun k hk => .inl hk)
          refine ⟨v, { E with w := E1.w, G := E.G }, rfl, rfl, hS, hL, q1, q2, ?_⟩
          cases r1 with
          | s x => exact hfz
          | tup cs =>
            obtain ⟨us, rfl, hw⟩ := hfz
            obtain ⟨w1, w2⟩ := VpL_iff.1 hw
            refine ⟨us, rfl, WL_iff.2 ⟨w1, fun i p v hp hpv => ?_⟩⟩
            have hw3 := w2 i p v hp hpv
            have hp2 : p ∈ cs := List.mem_of_getElem? hp
            have hps := List.all_eq_true.1 hflat p hp2
            cases p <;> first | exact hw3 | simp at hps
          | _ => simp [flat?] at hflat
        · cases h4
      · cases h

theorem look_begin : ∀ (args : List PV) (i t : Nat), look (begin args i) t = if i ≤ t then (args[t - i]?).map .v else none
  | [], i, t => by simp [begin, look]
  | p :: r, i, t => by
    simp only [begin, look, look_begin r (i + 1) t]
    by_cases h : i = t
    · subst h; simp
    · rw [if_neg h]
      by_cases h2 : i ≤ t
      · rw [if_pos (by omega), if_pos h2]
        obtain ⟨j, rfl⟩ : ∃ j, t = i + 1 + j := ⟨t - (i + 1), by omega⟩
        have e1 : i + 1 + j - (i + 1) = j := by omega
        have e2 : i + 1 + j - i = j + 1 := by omega
        rw [e1, e2]; rfl
      · rw [if_neg (by omega), if_neg h2]

/-- The model's reading of one result. -/
def resSem (tmps : Array Value) : ResultVar → Sem Value
  | .tmp t => pure (tmps.getD t undef)
  | .cell a t => do loadVar t (← asAddr (tmps.getD a undef))

theorem results_sound {C : Cfg} {fn : Func} {F : Fr} {E0 E : Env} {a : Act} {r : PV} (h : FOK C E0 E F a) (hr : resultsO C fn F = some r) :
    ∃ v, (results fn a.tmps).run C.P E.w = .ok v E.w ∧ W E r v := by
  have one : ∀ (x : ResultVar) (p : PV), resO C F x = some p →
      ∃ v, (resSem a.tmps x).run C.P E.w = .ok v E.w ∧ W E p v := by
    intro x p hx
    cases x with
    | tmp t =>
      obtain rfl := Option.some.inj hx
      exact ⟨a.tmps.getD t undef, rfl, W_pv (h.regs t)⟩
    | cell b t =>
      obtain ⟨v, h1, h2⟩ := load_sound h.S h.L h.inv (P := C.P) hx (h.regs b)
      refine ⟨v, ?_, h2⟩
      simp only [Instr.loadAt] at h1
      simp only [resSem, Sem.run_bind] at h1 ⊢
      cases hq : a.tmps.getD b undef <;> rw [hq] at h1 <;> first
        | (simp [Instr.sureAddr] at h1; done)
        | (rename_i ad
           cases ad with
           | none => simp [Instr.sureAddr] at h1
           | some ad => simpa [Instr.sureAddr, asAddr] using h1)
  have many : ∀ (xs : List ResultVar) (ps : List PV), xs.mapM (resO C F) = some ps →
      ∃ vs, (xs.mapM (resSem a.tmps)).run C.P E.w = .ok vs E.w ∧ WL E ps vs := by
    intro xs
    induction xs with
    | nil =>
      intro ps hp
      simp only [List.mapM_nil, Option.pure_def] at hp
      obtain rfl := Option.some.inj hp
      exact ⟨[], rfl, rfl⟩
    | cons x xs ih =>
      intro ps hp
      simp only [List.mapM_cons, Option.bind_eq_bind, Option.bind_eq_some_iff, Option.pure_def] at hp
      obtain ⟨p, hp1, ps', hp2, he⟩ := hp
      obtain rfl := Option.some.inj he
      obtain ⟨v, v1, v2⟩ := one x p hp1
      obtain ⟨vs, w1, w2⟩ := ih ps' hp2
      exact ⟨v :: vs, by simp [List.mapM_cons, v1, w1], ⟨v, vs, rfl, v2, w2⟩⟩
  unfold resultsO at hr
  have hres : results fn a.tmps = (do let vs ← fn.results.mapM (resSem a.tmps); pure (if h : vs.size = 1 then vs[0] else .tuple vs)) := rfl
  rw [hres]
  split at hr
  · rename_i p hp
    obtain rfl := Option.some.inj hr
    obtain ⟨vs, w1, w2⟩ := many _ _ hp
    obtain ⟨v, l, rfl, w3, w4⟩ := w2
    obtain rfl : l = [] := w4
    refine ⟨v, ?_, w3⟩
    simp [Array.mapM_eq_mapM_toList, w1]
  · rename_i ps hne hp
    obtain rfl := Option.some.inj hr
    obtain ⟨vs, w1, w2⟩ := many _ _ hp
    refine ⟨.tuple vs.toArray, ?_, vs, rfl, w2⟩
    have hl : vs.length ≠ 1 := by
      intro hl
      have h2 := (WL_iff.1 w2).1
      match ps, h2, hl with
      | [p], _, _ => exact hne p rfl
      | [], h2, hl => simp at h2; omega
      | _ :: _ :: _, h2, hl => simp at h2; omega
    simp [Array.mapM_eq_mapM_toList, w1, hl]
  · cases hr

def IntrOK (C : Cfg) : Prop := ∀ f g, C.intr f = some g → ∀ args S r S', g args S = some (r, S') → ∀ E : Env, E.S = S → E.L = [] → Inv E → Glob C E → ∀ vs, WL E args vs →
    (∃ fn, C.P.funcs[f]? = some fn ∧ fn.body.isSome = true ∧ fn.name ≠ "runtime.NumGoroutine") ∧ Calls C.P f vs.toArray E.w (CallPost E r S')

theorem run_sound {C : Cfg} (hintr : IntrOK C) : ∀ n, CallOK C (run C n)
  | 0 => fun g args S r S' h => by simp [run] at h
  | n + 1 => by
    intro f args S r S' h E hS hL hI hG vs hv
    simp only [run] at h
    cases hin : C.intr f with
    | some g => rw [hin] at h; exact hintr f g hin args S r S' h E hS hL hI hG vs hv
    | none =>
      simp only [hin] at h
      cases hf : C.P.funcs[f]? with
      | none => simp [hf] at h
      | some fn =>
        simp only [hf] at h
        cases hb : fn.body with
        | none => simp [hb] at h
        | some c =>
          simp only [hb] at h
          by_cases hname : fn.name = "runtime.NumGoroutine"
          · rw [if_pos hname] at h; cases h
          · rw [if_neg hname] at h
            refine ⟨⟨fn, rfl, by simp [hb], hname⟩, ?_⟩
            have hfok : FOK C E E { regs := begin args 0, st := ⟨[], S⟩, nt := fn.ntmps } { tmps := vs.toArray ++ Array.replicate (fn.ntmps - vs.toArray.size) undef, defers := [] } := by
              refine ⟨hS, hL, hI, Ext.refl E, hG, by simp; omega, rfl, fun t => ?_⟩
              obtain ⟨w1, w2⟩ := WL_iff.1 hv
              simp only [Fr.get, look_begin, Nat.zero_le, if_true, Nat.sub_zero]
              rcases Nat.lt_or_ge t args.length with ht | ht
              · have ht' : t < vs.length := by omega
                have : (vs.toArray ++ Array.replicate (fn.ntmps - vs.toArray.size) undef).getD t undef = vs[t] := by
                  simp [Array.getD_eq_getD_getElem?, Array.getElem?_append, ht']
                rw [this]
                simp only [List.getElem?_eq_getElem ht, Option.map_some, Option.getD_some]
                exact w2 t _ _ (by simp [ht]) (by simp [ht'])
              · simp only [List.getElem?_eq_none ht, Option.map_none, Option.getD_none]
                trivial
            have fin : ∀ (x : X) (F : Fr), (x = .normal ∨ x = .ret) → exec C (callF C (run C n)) f n c { regs := begin args 0, st := ⟨[], S⟩, nt := fn.ntmps } = some (x, F) →
                (resultsO C fn F).map (fun r => (r, F.st.S)) = some (r, S') → Calls C.P f vs.toArray E.w (CallPost E r S') := by
              intro x F hx hex hres
              obtain ⟨r0, hr0, hr1⟩ := Option.map_eq_some_iff.1 hres
              obtain ⟨rfl, rfl⟩ := Prod.mk.inj hr1
              refine calls_of_wp hf hb (wp_mono (exec_sound (callF_sound (run_sound hintr n)) c _ x F E _ hfok hex) ?_)
              rintro e a' w' ⟨rfl, E2, rfl, h2⟩
              obtain ⟨v, q1, q2⟩ := results_sound h2 hr0
              have hd := drop_locals h2.inv [] (fun d cs hd => by cases hd)
              have hp : CallPost E r0 F.st.S (.returned v) E2.w :=
                ⟨v, { E2 with L := [] }, rfl, rfl, h2.S, rfl, h2.ext.trans hd.1, hd.2, q2.aside⟩
              rcases hx with rfl | rfl
              · exact ⟨h2.defers, v, q1, hp⟩
              · exact ⟨h2.defers, v, q1, hp⟩
            split at h
            · rename_i F hex; exact fin .normal F (.inl rfl) hex h
            · rename_i F hex; exact fin .ret F (.inr rfl) hex h
            · cases h
end Go.Pvm
