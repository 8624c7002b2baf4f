/-
  A part of the proof: Z23.
-/
import Derived.Test.YtmjnfdjhaopeiaaGreatDoorZ22
import Derived.Test.YtmjnfdjhaopeiaaGreatDoorCards
import Derived.SevenTiedAt
namespace Go.Proofs.YtmjnfdjhaopeiaaGreatDoor
open Go Go.Pvm Go.ChangeShapes Go.WideShapes Go.ChangeAt Go.RowKit
set_option maxRecDepth 100000

theorem valueArgs_lifted (os : Os) (started : os.Started) (H : Type) (enc : TypeId × Value → H) :
    ReturnsInHanded {} Tryz.checked os 3 .any (fun w args => (Rows.valueArgsSpec.pre enc Tryz.prog Tryz.f3 [] false w args ∧ laidMetH Tryz.prog Rows.valueArgsRow.laid w) ∧ sizedMet enc Tryz.prog Tryz.f3 (OpenSpec.ofChange Rows.valueArgsSpec) false w args)
      (Rows.valueArgsSpec.post enc Tryz.prog Tryz.f3 false true false false) := by
  refine returnsInHanded_of_change_and (C := Tryz.checked) (X := fun w _ => laidMetH Tryz.prog Rows.valueArgsRow.laid w) (fun _ _ _ hh h => h.of_heap hh) own started (by kernel_rfl) Tryz.func3
    (ChangeSpec.witness_shaped (enc := enc) (C := Tryz.checked) (os := os) (X := fun w _ => laidMetH Tryz.prog Rows.valueArgsRow.laid w) false (witWorld os)
      #[.agg #[.string ⟨#[]⟩, .slice none 0 0, .slice none 0 0, .int .i64 0, .slice none 0 0, .slice none 0 0, .int .i64 0], .slice none 0 0] 8 rfl (World.shaped_of_RefB (by kernel_rfl) (by kernel_rfl)) (by kernel_rfl) (by kernel_rfl) (by kernel_rfl) (door_met os _)) ?_
  intro W base args ds gs before hval0 hW _ hwei hL _
  have hval : ∀ (j : Nat) t v, Tryz.f3.params[j]? = some t → args[j]? = some v → Value.okWide Tryz.prog W .any base t v := hval0
  have hW' := hW
  obtain ⟨p, q, hA0, hV, rfl, hfz, hnd⟩ := hW
  have hA : DataW.TrodAll enc Tryz.prog W 0 (fun _ => true) true Tryz.f3.params.toList args.toList ds p := hA0
  have hwei' : (DataW.weightsEach Tryz.prog (Tryz.f3.params.toList ++ Rows.valueArgsSpec.plain.varTypes Tryz.prog) (ds ++ gs)).all (· ≤ reachBytes) = true := hwei
  rw [Tryz.params3] at hA hval hwei'
  obtain ⟨v0, v1, d0, d1, p0, p1, rfl, rfl, rfl, h0, h1⟩ := trodAll_two hA
  obtain ⟨rfl, rfl⟩ := trodVars_none hV
  simp only [List.append_nil] at hW'
  obtain ⟨l0, l1⟩ := lig_two hwei'
  obtain ⟨s, hs, hsf⟩ : ∃ s : Sg, VpL W (fun k => k < W.heap.size) s.cells v0.cells.toList ∧ s.fits := by
    obtain ⟨fuel, h⟩ := h0
    exact sig_of h l0
  obtain ⟨u1, u, L, e1, hLs, hLl, hLf⟩ : ∃ (x : Value) (u : Bool) (L : List Vl), v1.cells.toList = [x] ∧ Vp W (fun k => k < W.heap.size) (.sl u L.length (cellsL L)) x ∧ L.length ≤ 140737488355328 ∧ ∀ v ∈ L, v.fits := by
    obtain ⟨fuel, h⟩ := h1
    exact vals_of h l1
  have hv1 : v1 = u1 := one_of e1 (okWide_slice Tryz.underlying28 (hval 1 28 v1 rfl rfl))
  subst hv1
  have hlaid : laidMet Tryz.prog Rows.valueArgsRow.laid W := by
    have h := hL
    unfold laidMetH at h
    rw [show (Rows.valueArgsRow.laid.filter fun x => x.2.handleName?.isSome) = [] by kernel_rfl] at h
    exact h
  refine (valueArgs_calls s u L hsf hLf (E := env0 W) rfl rfl (inv0 W) (glob0 hlaid) (agg_of rfl rfl hs (by simp [Sg.cells])) hLs).mono fun e W' ⟨he, E', hw, hext⟩ => ?_
  subst he
  have hB : Below W.heap.size W W' := hw ▸ hext.below (no_mod W)
  have e1 : Rows.valueArgsSpec.fn H ([d0, d1] ++ []) = { results := [.lit (.bool true)], args := [d0, d1] } := by simp [Rows.valueArgsSpec]
  have t0 := Below.trod laidOut (by kernel_rfl) (of_decide_eq_true (by kernel_rfl)) h0 hB (fun x hx => hW'.lt x (by simp [hx]))
  have t1 := Below.trod laidOut (by kernel_rfl) (of_decide_eq_true (by kernel_rfl)) h1 hB (fun x hx => hW'.lt x (by simp [hx]))
  refine ⟨_, rfl, _, _, _, [], p0 ++ p1, [], hW', ?_, ?_, ?_, hB.frame _, fun h => by cases h⟩
  · rw [e1]; exact trodAll_mk1 (shut_bool Tryz.underlying4 true)
  · rw [e1]; exact trodAll_mk2 t0 t1
  · rw [e1]; rfl

theorem valueArgs_holds : Rows.ValueArgsSaid :=
  OpenClaim.holds_of_wide 3 Tryz.f3 rfl rfl rfl rfl rfl rfl rfl ⟨rfl, rfl, rfl, rfl, rfl⟩ rfl rfl rfl rfl rfl (by kernel_rfl) Tryz.func3 (by kernel_rfl)
    (of_decide_eq_true (by kernel_rfl)) (by unfold Func.isWrapper; rw [if_neg (of_decide_eq_false (by kernel_rfl))]; exact ⟨rfl, rfl⟩)
    (fun os started H enc _ => valueArgs_lifted os started H enc)


theorem valueArgs_card : Rows.ValueArgsCardSaid :=
  Claim7.holds_tied_plain_at .later [] [.data, .data, .data, .data, .pinned, .pinned] true (true, "b562329d2a4e582a472c743ebf0c0c482c6250c82062ba604534b3092be43105") false
    valueArgs_holds (fun _ h => by cases h) (by kernel_rfl) (fun _ h => by cases h) valueArgs_row_tie rfl ⟨rfl, rfl⟩ (by kernel_rfl) rfl
    (fun f fn hf hfn => by
      obtain rfl : f = 3 := Option.some.inj ((show Tryz.prog.funcNamed "scarf/scarflaw15.ValueArgs" = some 3 by kernel_rfl).symm.trans hf) |>.symm
      obtain rfl : fn = Tryz.f3 := (Option.some.inj (Tryz.func3.symm.trans hfn)).symm
      exact ⟨by kernel_rfl, fun j t ht => by
        rw [Tryz.params3] at ht
        have h3 : t = 27 ∨ t = 28 := by
          rcases j with _ | _ | j
          · left; simpa using ht.symm
          · right; simpa using ht.symm
          · simp at ht
        rcases h3 with rfl | rfl
        · exact (show Tryz.prog.wantsStandIn 27 = false by kernel_rfl)
        · exact (show Tryz.prog.wantsStandIn 28 = false by kernel_rfl)⟩)
    (by kernel_rfl)
#print axioms valueArgs_card
end Go.Proofs.YtmjnfdjhaopeiaaGreatDoor
