/-
  A part of the proof: Pv6.
-/
import Derived.Test.YtmjnfdjhaopeiaaGreatDoorPv5
/-
  PVM, part 6: the operations, continued.
-/
namespace Go.Pvm
open Go
section
variable {P : Program}

theorem index_sound {E : Env} {t : TypeId} {x i r : PV} {av iv : Value} (h : indexO P t x i = some r) (hv : W E x av) (hi : W E i iv) :
    ∃ v, (Instr.index t av iv).run P E.w = .ok v E.w ∧ W E r v := by
  unfold indexO at h
  split at h
  · rename_i k n s hu
    obtain rfl : iv = _ := hi
    obtain rfl : av = _ := hv
    split at h
    · rename_i b hb
      obtain rfl := Option.some.inj h
      refine ⟨_, ?_, rfl⟩
      simp [Instr.index, asIntOf, run_underlying hu, hb]
    · cases h
  · rename_i k n cs m e hu
    obtain rfl : iv = _ := hi
    obtain ⟨vs, rfl, hw⟩ := hv
    split at h
    · rename_i sz hsz
      split at h
      · rename_i hc
        obtain ⟨v, h1, h2⟩ := part_sound (vs := vs.toArray) h hw
        refine ⟨v, ?_, h2⟩
        simp [Instr.index, asIntOf, run_underlying hu, hc.1, hc.2, run_size hsz, h1]
      · cases h
    · cases h
  · cases h

theorem len_sound {E : Env} {t ty : TypeId} {ats : Array TypeId} {x r : PV} {av : Value} (ht : ats[0]? = some t) (h : lenO P t x = some r) (hv : W E x av) :
    ∃ v, (Builtin.len_ ats ty #[av]).run P E.w = .ok v E.w ∧ W E r v := by
  unfold lenO at h
  split at h
  · rename_i s hu
    obtain rfl : av = _ := hv
    obtain rfl := Option.some.inj h
    refine ⟨_, ?_, rfl⟩
    simp [Builtin.len_, ht, run_underlying hu, goInt]
  · rename_i full n cs e hu
    obtain ⟨A, c, rfl, _⟩ := hv
    obtain rfl := Option.some.inj h
    refine ⟨_, ?_, rfl⟩
    simp [Builtin.len_, ht, run_underlying hu, goInt]
  · rename_i b ver off n e hu
    obtain ⟨⟨_, A, c, rfl⟩, _⟩ := hv
    obtain rfl := Option.some.inj h
    refine ⟨_, ?_, rfl⟩
    simp [Builtin.len_, ht, run_underlying hu, goInt]
  · cases h

theorem min_sound {E : Env} {mx : Bool} {x y r : PV} {a b : Value} (ats : Array TypeId) (ty : TypeId) (h : minO mx [x, y] = some r) (hx : W E x a) (hy : W E y b) :
    ∃ v, (if mx then Builtin.max_ ats ty #[a, b] else Builtin.min_ ats ty #[a, b]).run P E.w = .ok v E.w ∧ W E r v := by
  unfold minO at h
  split at h
  · rename_i k p k' q heq
    simp only [List.cons.injEq, and_true] at heq
    obtain ⟨rfl, rfl⟩ := heq
    obtain rfl : a = _ := hx
    obtain rfl : b = _ := hy
    obtain rfl := Option.some.inj h
    refine ⟨_, ?_, rfl⟩
    cases mx
    · simp [Builtin.min_, Builtin.min2]
    · simp [Builtin.max_, Builtin.max2]
  · cases h

def OptW (E : Env) : Option PV → Option Value → Prop
  | none, none => True
  | some p, some v => W E p v
  | _, _ => False

theorem bound_sound {E : Env} {x : Option PV} {xv : Option Value} {d m n : Nat} (h : boundO x d m = some n) (hx : OptW E x xv) (hd : d ≤ m) :
    n ≤ m ∧ (xv = none → n = d) ∧ ∀ v, xv = some v → ∀ m' code, m ≤ m' → (Instr.sliceBound v m' code).run P E.w = .ok n E.w := by
  cases x with
  | none =>
    cases xv with
    | none =>
      simp only [boundO] at h
      obtain rfl := Option.some.inj h
      exact ⟨hd, fun _ => rfl, fun v e => (by cases e)⟩
    | some v => exact hx.elim
  | some p =>
    cases xv with
    | none => exact hx.elim
    | some v =>
      unfold boundO at h
      split at h
      · rename_i heq; cases heq
      · rename_i k i heq
        obtain rfl := Option.some.inj heq
        obtain rfl : v = _ := hx
        split at h
        · rename_i hc
          obtain rfl := Option.some.inj h
          refine ⟨by omega, fun e => (by cases e), fun v e m' code hm => ?_⟩
          obtain rfl := Option.some.inj e
          have : i ≤ (m' : Int) := by omega
          simp [Instr.sliceBound, asIntOf, hc.1, this]
        · cases h
      · cases h

theorem boundO_some (p : PV) (a b m : Nat) : boundO (some p) a m = boundO (some p) b m := by
  cases p with
  | s v => cases v <;> rfl
  | _ => rfl

theorem bounds_sound {E : Env} {lo hi mx : Option PV} {lov hiv mxv : Option Value} {n cap l h m : Nat} (isS : Bool) (hcap : n ≤ cap)
    (hl : OptW E lo lov) (hh : OptW E hi hiv) (hm : OptW E mx mxv)
    (em : boundO mx n n = some m) (eh : boundO hi n m = some h) (el : boundO lo 0 h = some l) (hmx : mxv = none → m = n) (hnn : hiv = none → mxv = none) :
    l ≤ h ∧ h ≤ m ∧ m ≤ n ∧ (Instr.sliceBounds isS n cap lov hiv mxv).run P E.w = .ok (l, h, if mxv = none then cap else m) E.w := by
  obtain ⟨m1, m2, m3⟩ := bound_sound (P := P) em hm (Nat.le_refl _)
  by_cases hmxv : mxv = none
  · subst hmxv
    have hmn := hmx rfl
    subst hmn
    obtain ⟨h1, h2, h3⟩ := bound_sound (P := P) eh hh (Nat.le_refl _)
    obtain ⟨l1, l2, l3⟩ := bound_sound (P := P) el hl (Nat.zero_le _)
    refine ⟨l1, h1, m1, ?_⟩
    cases hiv with
    | none =>
      obtain rfl := h2 rfl
      cases lov with
      | none => obtain rfl := l2 rfl; simp [Instr.sliceBounds]
      | some lv => simp [Instr.sliceBounds, l3 lv rfl _ _ (Nat.le_refl _)]
    | some hv =>
      cases lov with
      | none => obtain rfl := l2 rfl; simp [Instr.sliceBounds, h3 hv rfl _ _ hcap]
      | some lv => simp [Instr.sliceBounds, h3 hv rfl _ _ hcap, l3 lv rfl _ _ (Nat.le_refl _)]
  · obtain ⟨mv, rfl⟩ : ∃ mv, mxv = some mv := by cases mxv with | none => exact absurd rfl hmxv | some mv => exact ⟨mv, rfl⟩
    obtain ⟨hv, rfl⟩ : ∃ hv, hiv = some hv := by cases hiv with | none => have := hnn rfl; cases this | some hv => exact ⟨hv, rfl⟩
    obtain ⟨p, rfl⟩ : ∃ p, hi = some p := by cases hi with | none => exact hh.elim | some p => exact ⟨p, rfl⟩
    have eh' : boundO (some p) m m = some h := (boundO_some p m n m).trans eh
    obtain ⟨h1, h2, h3⟩ := bound_sound (P := P) eh' hh (Nat.le_refl _)
    obtain ⟨l1, l2, l3⟩ := bound_sound (P := P) el hl (Nat.zero_le _)
    refine ⟨l1, h1, m1, ?_⟩
    cases lov with
    | none => obtain rfl := l2 rfl; simp [Instr.sliceBounds, m3 mv rfl _ _ hcap, h3 hv rfl _ _ (Nat.le_refl _)]
    | some lv => simp [Instr.sliceBounds, m3 mv rfl _ _ hcap, h3 hv rfl _ _ (Nat.le_refl _), l3 lv rfl _ _ (Nat.le_refl _)]

theorem VpC_cut {w : World} {G : Nat → Prop} {cs : List PV} {k o : Nat} (h : VpC w G cs k o) (a b : Nat) : VpC w G ((cs.drop a).take b) k (o + a) := by
  refine VpC_iff.2 fun i p hp => ?_
  rcases Nat.lt_or_ge i b with hi | hi
  · rw [List.getElem?_take_of_lt hi, List.getElem?_drop] at hp
    rw [Nat.add_assoc]
    exact VpC_iff.1 h (a + i) p hp
  · simp [List.getElem?_take, Nat.not_lt.2 hi] at hp

theorem slice_sound {E : Env} {T : LS} (hS : E.S = T.S) (hI : Inv E) {t : TypeId} {x r : PV} {lo hi mx : Option PV} {av : Value} {lov hiv mxv : Option Value}
    (h : sliceO P T t x lo hi mx = some r) (hv : W E x av) (hl : OptW E lo lov) (hh : OptW E hi hiv) (hm : OptW E mx mxv) (hnn : hiv = none → mxv = none) :
    ∃ v, (Instr.sliceAt t av lov hiv mxv).run P E.w = .ok v E.w ∧ W E r v := by
  have hmnone : mx = none ↔ mxv = none := by
    cases mx <;> cases mxv <;> simp [OptW] at hm ⊢
  unfold sliceO at h
  split at h
  · rename_i s hu
    obtain rfl : av = _ := hv
    split at h
    · rename_i hh1 eh
      split at h
      · rename_i l el
        obtain rfl := Option.some.inj h
        have hmv : mxv = none := hmnone.1 rfl
        subst hmv
        obtain ⟨b1, b2, b3, b4⟩ := bounds_sound (P := P) (cap := s.size) false (Nat.le_refl _) hl hh hm (m := s.size) rfl eh el (fun _ => rfl) hnn
        refine ⟨_, ?_, rfl⟩
        simp [Instr.sliceAt, Instr.slice, run_underlying hu, b4]
      · cases h
    · cases h
  · rename_i full n cs e hu
    obtain ⟨A, c, rfl, hnc, hfull, hcs⟩ := hv
    split at h
    · rename_i m sz em hsz
      split at h
      · rename_i hh1 eh
        split at h
        · rename_i l el
          split at h
          · have hmx : mxv = none → m = n := by
              intro e'
              have := hmnone.2 e'
              subst this
              simp [boundO] at em; exact em.symm
            obtain ⟨b1, b2, b3, b4⟩ := bounds_sound (P := P) true hnc hl hh hm em eh el hmx hnn
            have hsl : ∀ M, hh1 ≤ M → cs = cs → (∃ A', (if M = l then A else A.map (·.add (l * sz))) = A' ∧ ((cs.drop (l * sz)).take ((hh1 - l) * sz) = [] ∨ ∃ k o, A' = some ⟨k, o, none⟩ ∧ E.G k ∧ VpC E.w E.G ((cs.drop (l * sz)).take ((hh1 - l) * sz)) k o)) := by
              intro M hM _
              refine ⟨_, rfl, ?_⟩
              by_cases e1 : M = l
              · left
                have : hh1 - l = 0 := by omega
                simp [this]
              · rcases hcs with rfl | ⟨k, o, rfl, hg, hc⟩
                · left; simp
                · right
                  refine ⟨k, o + l * sz, ?_, hg, VpC_cut hc _ _⟩
                  rw [if_neg e1]; simp [addr_eq]
            by_cases hmv : mxv = none
            · have hmx0 := hmnone.2 hmv
              subst hmx0
              simp at h
              obtain rfl := h
              obtain ⟨A', hA', hW⟩ := hsl c (by omega) rfl
              refine ⟨.slice A' (hh1 - l) (c - l), ?_, A', c - l, rfl, by omega, fun hf => ?_, hW⟩
              · subst hmv
                simp only [Instr.sliceAt, Instr.slice, run_underlying hu, Sem.run_bind, Result.andThen_ok, b4, if_true, run_size hsz, Sem.run_pure, hA']
              · simp at hf
                have := hfull hf.1
                omega
            · have hsome : mx.isSome = true := by
                cases mx with
                | none => exact absurd (hmnone.1 rfl) hmv
                | some _ => rfl
              simp [hsome] at h
              obtain rfl := h
              obtain ⟨A', hA', hW⟩ := hsl m b2 rfl
              refine ⟨.slice A' (hh1 - l) (m - l), ?_, A', m - l, rfl, by omega, fun hf => ?_, hW⟩
              · simp only [Instr.sliceAt, Instr.slice, run_underlying hu, Sem.run_bind, Result.andThen_ok, b4, if_neg hmv, run_size hsz, Sem.run_pure, hA']
              · simp at hf; omega
          · cases h
        · cases h
      · cases h
    · cases h
  · rename_i b ver off n e hu
    obtain ⟨⟨g1, A0, c0, rfl⟩, g3⟩ := hv
    split at h
    · rename_i hh1 sz eh hsz
      split at h
      · rename_i l el
        split at h
        · rename_i bx hb
          split at h
          · rename_i hc
            obtain ⟨hver, hes, hlh⟩ := hc
            obtain rfl := Option.some.inj h
            obtain ⟨g4, g5⟩ := g3 bx (by rw [hS]; exact hb)
            obtain ⟨A, c, e1, hnc, hz, hA⟩ := g5 hver
            simp only [Value.slice.injEq, true_and] at e1
            obtain ⟨rfl, rfl⟩ := e1
            have hmv : mxv = none := hmnone.1 rfl
            subst hmv
            obtain ⟨b1, b2, b3, b4⟩ := bounds_sound (P := P) true hnc hl hh hm (m := n) rfl eh el (fun _ => rfl) hnn
            refine ⟨.slice (if c0 = l then A0 else A0.map (·.add (l * sz))) (hh1 - l) (c0 - l), ?_, ⟨g1, _, _, rfl⟩, fun bx' hb' => ?_⟩
            · simp only [Instr.sliceAt, Instr.slice, run_underlying hu, Sem.run_bind, Result.andThen_ok, b4, if_true, run_size hsz, Sem.run_pure]
            · obtain ⟨g6, g7⟩ := g3 bx' hb'
              refine ⟨g6, fun hv' => ⟨_, _, rfl, by omega, ?_, ?_⟩⟩
              · have hbb : bx' = bx := by rw [hS, hb] at hb'; exact (Option.some.inj hb').symm
                subst hbb
                rw [hes]
                have : off + c0 * sz ≤ E.z b := by rw [hes] at hz; exact hz
                have h2 : l * sz + (c0 - l) * sz = c0 * sz := by rw [← Nat.add_mul]; congr 1; omega
                omega
              · intro k hk
                have hA0 := hA k hk
                subst hA0
                by_cases e2 : c0 = l
                · rw [if_pos e2]
                  have : l = 0 := by omega
                  simp [this]
                · rw [if_neg e2]; simp [addr_eq]
          · cases h
        · cases h
      · cases h
    · cases h
  · rename_i b ver off n e hu
    split at h
    · rename_i hh1 sz eh hsz
      split at h
      · rename_i l el
        split at h
        · rename_i bx hb
          split at h
          · rename_i hc
            obtain ⟨hver, hes, hlh, hfit⟩ := hc
            obtain rfl := Option.some.inj h
            obtain ⟨⟨g1, _⟩, g3⟩ := hv
            have hb' : E.S.get b = some bx := by rw [hS]; exact hb
            obtain ⟨g4, g5⟩ := g3 bx hb'
            obtain ⟨k, hk, rfl⟩ := g5 hver
            have hmv : mxv = none := hmnone.1 rfl
            subst hmv
            obtain ⟨b1, b2, b3, b4⟩ := bounds_sound (P := P) (cap := n) false (Nat.le_refl _) hl hh hm (m := n) rfl eh el (fun _ => rfl) hnn
            obtain ⟨arr, Ty, q1, q2, q3, q4⟩ := ((hI.box b bx hb').2.2.1 k hk).ex
            have ha : (if n = l then (⟨k, off, none⟩ : Addr) else (⟨k, off, none⟩ : Addr).add (l * sz)) = ⟨k, off + l * sz, none⟩ := by
              by_cases e2 : n = l
              · rw [if_pos e2]
                have : l = 0 := by omega
                simp [this]
              · rw [if_neg e2, addr_eq]
            refine ⟨.slice (some ⟨k, off + l * sz, none⟩) (hh1 - l) (n - l), ?_, ⟨g1, _, _, rfl⟩, fun bx' hb2 => ?_⟩
            · simp only [Instr.sliceAt, run_underlying hu, Sem.run_bind, Result.andThen_ok, Instr.sureAddr, Sem.run_pure, b4, if_true, run_size hsz, ha]
            · obtain ⟨g6, g7⟩ := g3 bx' hb2
              have hbb : bx' = bx := by rw [hb'] at hb2; exact (Option.some.inj hb2).symm
              subst hbb
              refine ⟨g6, fun hv' => ⟨_, _, rfl, by omega, ?_, fun k' hk' => ?_⟩⟩
              · rw [hes]
                have h2 : l * sz + (n - l) * sz = n * sz := by rw [← Nat.add_mul]; congr 1; omega
                omega
              · rw [hk] at hk'
                obtain rfl := Option.some.inj hk'
                rfl
          · cases h
        · cases h
      · cases h
    · cases h
  · cases h
end
end Go.Pvm
