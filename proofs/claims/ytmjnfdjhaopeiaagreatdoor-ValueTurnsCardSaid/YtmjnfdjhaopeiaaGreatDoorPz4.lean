/-
  A part of the proof: Pz4.
-/
import Derived.Test.YtmjnfdjhaopeiaaGreatDoorPz1
/-
  slices.Clone by the shelf's contract.
-/
namespace Go.Pvm
open Go Go.Proofs Go.RowKit Go.Shelf Go.Lib

theorem news_of {w : World} {G : Nat → Prop} : ∀ {cs : List PV} {k o : Nat}, VpC w G cs k o → ∃ us : List Value, VpL w G cs us ∧ us.length = cs.length ∧ ∀ j u, us[j]? = some u → w.cell? ⟨k, o + j, none⟩ = some u
  | [], _, _, _ => ⟨[], rfl, rfl, fun j u h => by simp at h⟩
  | c :: cs, k, o, ⟨⟨u, hu, hv⟩, hr⟩ => by
    obtain ⟨us, h1, h2, h3⟩ := news_of hr
    refine ⟨u :: us, ⟨u, us, rfl, hv, h1⟩, by simp [h2], fun j x hx => ?_⟩
    cases j with
    | zero => simp at hx; subst hx; exact hu
    | succ j =>
      have := h3 j x (by simpa using hx)
      rwa [show o + (j + 1) = o + 1 + j by omega]

theorem VpL_get {w : World} {G : Nat → Prop} : ∀ {cs : List PV} {us : List Value}, VpL w G cs us → ∀ (i : Nat) (p : PV), cs[i]? = some p → ∃ u, us[i]? = some u ∧ Vp w G p u
  | [], us, h, i, p, hp => by simp at hp
  | c :: cs, us, ⟨v, r, e, hv, hr⟩, i, p, hp => by
    subst e
    cases i with
    | zero => simp at hp; subst hp; exact ⟨v, rfl, hv⟩
    | succ i =>
      obtain ⟨u, h1, h2⟩ := VpL_get hr i p (by simpa using hp)
      exact ⟨u, by simpa using h1, h2⟩

/-- What lies below stays; one new block is never written again. -/
theorem Step.belowG {E : Env} (h : Inv E) {w' : World} (hb : Go.RowKit.Below E.w.heap.size E.w w') {g : Nat} (hg : E.w.heap.size ≤ g) (hg2 : g < w'.heap.size) :
    Step E { E with w := w', G := fun k => E.G k ∨ k = g } := by
  have hext : Ext E { E with w := w', G := fun k => E.G k ∨ k = g } :=
    ⟨hb.os, hb.tape, hb.output, hb.size, fun k hk _ => hb.block k hk, fun _ h => .inl h, fun k hk => hk.elim .inl fun e => .inr (.inl (by omega)), fun _ h => .inr h, Nat.le_refl _,
      fun _ bx' _ h => ⟨bx', h, fun _ => ⟨rfl, rfl, rfl⟩, Nat.le_refl _⟩⟩
  have hle := hext.le h
  refine ⟨hext, ⟨fun k hk => ?_, fun b bx hb' => ?_, h.inj, fun d cs hd => ?_, h.linj, h.apart⟩, fun _ cs h => ⟨⟨cs, h⟩, rfl⟩⟩
  · rcases hk with hk | hk
    · obtain ⟨h1, h2⟩ := h.gam k hk
      exact ⟨Nat.lt_of_lt_of_le h1 hb.size, h2⟩
    · subst hk
      exact ⟨hg2, fun hm => by have := Mod.lt h hm; omega⟩
  · obtain ⟨h1, h2, h3, h4⟩ := h.box b bx hb'
    exact ⟨h1, h2, fun k hk => (h3 k hk).mono hle (hb.block k (h3 k hk).lt), h4⟩
  · exact (h.loc d cs hd).mono hle (hb.block _ (h.loc d cs hd).lt)

/-- What the shelf wants of the element's type. -/
structure CloneAt (P : Program) (ρ : Ren) (sz : Nat) : Prop where
  L : SlLaysE0.n41 P ρ
  ex : ∃ (i0 : TypeInfo) (z : Value) (bytes : Nat), P.info? (ρ.t 23) = some i0 ∧ i0.zero = some z ∧ i0.size = sz ∧ i0.bytes = bytes ∧ z.cells.size = sz ∧ bytes ≤ 1000
  pos : 0 < sz
  z23 : ∀ w, (Go.sizeOf (ρ.t 23)).run P w = .ok sz w

set_option maxHeartbeats 2000000 in
set_option maxRecDepth 100000 in
/-- Of an empty slice that is not nil, wherever it points. -/
theorem clone_empty {P : Program} {ρ : Ren} {sz : Nat} (C : CloneAt P ρ sz) (ad : Addr) (c : Nat) (w : World) :
    Calls P (ρ.f 41) #[.slice (some ad) 0 c] w fun e w' => ∃ v', e = .returned v' ∧ w'.ownsRow w.heap.size (ρ.t 23) sz v' 0 [] ∧ Below w.heap.size w w' := by
  have L := C.L
  have hsz := C.pos
  have z23 := C.z23
  obtain ⟨i0, z, bytes, hi, hz0, hz1, hz2, hzs, _⟩ := C.ex
  have mixed := L.mixed; have t4 := L.t4; have a4 := L.a4; have z4 := L.z4; have v4 := L.v4; have t22 := L.t22; have a22 := L.a22; have z22 := L.z22; have v22 := L.v22
  have q22 : ∀ (w : World) (a : Option Addr) (n c n' c' : Nat), (binOp .eql (ρ.t 22) (.slice a n c) (.slice none n' c')).run P w = .ok (.bool a.isNone) w := fun w a n c n' c' => Lib.run_eql_slice_nil w _ _ a n c n' c' L.t22
  have u22 : ∀ w, Sem.run P (underlying (ρ.t 22)) w = .ok (TypeDesc.slice (ρ.t 23)) w := run_underlying t22
  obtain ⟨_, _, FG⟩ := L.f41
  go_enter FG, SlBodyN.n41_ntmps ρ
  go_wp2_with (at_builtin; refine wpList_append_own _ rfl _ _ (ρ.t 22) rfl w.heap.size (ρ.t 23) i0 z sz bytes t22 hi hz0 hz1 hz2 hzs hsz _ _ _ rfl (World.ownsRow_made w #[] 0 (Nat.le_refl _) (Nat.zero_le _) (by simp)) ad 0 c [] rfl ?qc1 ?qc2 ?qc3 ?qc4 ?qc5 ?qc6 ?_)
  case qc1 => simp
  case qc2 => intro j u hj; simp at hj
  case qc3 => intro u hu; simp at hu
  case qc4 => exact Nat.zero_le _
  case qc5 => simp
  case qc6 => simp
  intro v' w1 hown hgrow hnil
  go_wp2
  go_ret
  exact ⟨v', rfl, by simpa using hown, ((Below.refl _ w).alloc (Nat.le_refl _) _).grown hgrow (by simp) (by intro k hk; simp [Value.ownBlock] at hk; omega)⟩

theorem cloneI_ok {P : Program} {ρ : Ren} {sz : Nat} (C : CloneAt P ρ sz) {args : List PV} {S S' : Store} {r : PV} (h : cloneI sz args S = some (r, S'))
    {E : Env} (hS : E.S = S) (hL : E.L = []) (hI : Inv E) {vs : List Value} (hv : WL E args vs) : Calls P (ρ.f 41) vs.toArray E.w (CallPost E r S') := by
  unfold cloneI at h
  split at h
  · rename_i full n cs
    obtain ⟨v1, r1, rfl, hv1, rfl⟩ := hv
    split at h
    · rename_i hc
      obtain ⟨rfl, rfl⟩ := Prod.mk.inj (Option.some.inj h)
      obtain ⟨hl, h1, hn⟩ := hc
      obtain ⟨A, c, rfl, hnc, _, hA⟩ := hv1
      have fin : ∀ (us : List Value), VpL E.w E.G cs us → us.length = n * sz → ∀ e w', (∃ v', e = .returned v' ∧ w'.ownsRow E.w.heap.size (ρ.t 23) sz v' n us ∧ Below E.w.heap.size E.w w') → CallPost E (.sl false n cs) S e w' := by
        rintro us hus hul e w' ⟨v', rfl, ⟨_, hown⟩, hb⟩
        rcases hown with ⟨rfl, rfl⟩ | ⟨g, cap, cur, rfl, hg, hgb, hcap, _, hcs, htake⟩
        · have st := Step.below hI hb
          refine ⟨_, { E with w := w' }, rfl, rfl, hS, hL, st.ext, st.inv, ⟨none, 0, rfl, Nat.le_refl _, fun h => rfl, .inl ?_⟩⟩
          rw [Nat.zero_mul] at hl; exact List.length_eq_zero_iff.1 hl
        · have st := Step.belowG hI hb hg (Array.getElem?_eq_some_iff.1 hgb).1
          refine ⟨_, { E with w := w', G := fun k => E.G k ∨ k = g }, rfl, rfl, hS, hL, st.ext, st.inv, ⟨_, cap, rfl, hcap, (by intro h; cases h), .inr ⟨g, 0, rfl, .inr rfl, ?_⟩⟩⟩
          refine VpC_iff.2 fun i p hp => ?_
          obtain ⟨u, hu, hpu⟩ := VpL_get hus i p hp
          refine ⟨u, ?_, Vp.mono (fun k hk => ⟨.inl hk, hb.block k (hI.gam k hk).1⟩) p u hpu⟩
          have hlt : i < us.length := (List.getElem?_eq_some_iff.1 hu).1
          have hcur : cur[i]? = some u := by
            rw [← Array.getElem?_toList, ← hu, ← htake, List.getElem?_take_of_lt (by omega)]
          simp [World.cell?, hgb, hcur]
      cases A with
      | none =>
        have h0 : cs = [] := by
          rcases hA with h | ⟨k, o, e, _⟩
          · exact h
          · cases e
        subst h0
        have hn0 : n = 0 := by
          rcases Nat.eq_zero_or_pos n with h | h
          · exact h
          · exact absurd hl (by have := Nat.mul_pos h C.pos; simp; omega)
        subst hn0
        refine (AnyE.slices_Clone_nil C.L 0 c E.w).mono ?_
        rintro e w' ⟨rfl, rfl⟩
        exact fin [] rfl (by simp) _ _ ⟨_, rfl, ⟨by simp, .inl ⟨rfl, rfl⟩⟩, Below.refl _ _⟩
      | some ad =>
        rcases hA with rfl | ⟨k, o, e, hG, hC⟩
        · have hn0 : n = 0 := by
            rcases Nat.eq_zero_or_pos n with h | h
            · exact h
            · exact absurd hl (by have := Nat.mul_pos h C.pos; simp; omega)
          subst hn0
          exact (clone_empty C ad c E.w).mono (fin [] rfl (by simp))
        · obtain rfl := Option.some.inj e
          obtain ⟨us, hus, hul, hcell⟩ := news_of hC
          obtain ⟨i0, z, bytes, hi, hz0, hz1, hz2, hzs, hb⟩ := C.ex
          refine (AnyE.slices_Clone C.L i0 z sz bytes hi hz0 hz1 hz2 hzs C.pos C.z23 k o n c us E.w (by omega) (by unfold maxLen; omega) ?_ hcell (ones h1 (WL_of_VpL _ _ hus))).mono fun e w' ⟨v', he, ho, _, hB⟩ => fin us hus (by omega) e w' ⟨v', he, ho, hB⟩
          exact Nat.le_trans (Nat.mul_le_mul hn hb) (by decide)
    · cases h
  · cases h
end Go.Pvm
