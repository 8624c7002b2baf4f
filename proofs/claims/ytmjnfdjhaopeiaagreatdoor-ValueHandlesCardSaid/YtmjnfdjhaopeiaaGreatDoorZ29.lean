/-
  A part of the proof: Z29.
-/
import Derived.Test.YtmjnfdjhaopeiaaGreatDoorZ28
import Derived.Test.YtmjnfdjhaopeiaaGreatDoorZ22
import Derived.Test.YtmjnfdjhaopeiaaGreatDoorCards
import Derived.SevenTiedAt
namespace Go.Proofs.YtmjnfdjhaopeiaaGreatDoor
open Go Go.Pvm Go.ChangeShapes Go.WideShapes Go.ChangeAt Go.RowKit
set_option maxRecDepth 100000

/-- A call of ValueHandles, whatever the tape. -/
theorem valueHandles_calls (t : Tt) (v : Vl) (hf : t.fits) (hvf : v.fits) {E : Env} (hS : E.S = ⟨[], 0⟩) (hL : E.L = []) (hI : Inv E) (hG : Glob cfg E) {v0 v1 : Value}
    (h0 : W E (.agg t.cells) v0) (h1 : W E (.agg v.cells) v1) :
    Calls Tryz.prog f_scarflaw15_ValueHandles #[v0, v1] E.w fun e w' => e = .returned (.bool true) ∧ ∃ E', E'.w = w' ∧ Ext E E' := by
  obtain ⟨n, hn⟩ := ValueHandles_run t v hf hvf
  have h := (run_sound intrOK n _ _ ⟨[], 0⟩ _ _ hn E hS hL hI hG [v0, v1] ⟨v0, [v1], rfl, h0, v1, [], rfl, h1, rfl⟩).2
  refine h.mono fun e w' => ?_
  rintro ⟨v, E', rfl, rfl, _, _, hext, _, hv⟩
  exact ⟨by rw [show v = .bool true from hv], E', rfl, hext⟩

theorem valueHandles_lifted (os : Os) (started : os.Started) (H : Type) (enc : TypeId × Value → H) :
    ReturnsInHanded {} Tryz.checked os 4 .any (fun w args => (Rows.valueHandlesSpec.pre enc Tryz.prog Tryz.f4 [] false w args ∧ laidMetH Tryz.prog Rows.valueHandlesRow.laid w) ∧ sizedMet enc Tryz.prog Tryz.f4 (OpenSpec.ofChange Rows.valueHandlesSpec) false w args)
      (Rows.valueHandlesSpec.post enc Tryz.prog Tryz.f4 false true false false) := by
  refine returnsInHanded_of_change_and (C := Tryz.checked) (X := fun w _ => laidMetH Tryz.prog Rows.valueHandlesRow.laid w) (fun _ _ _ hh h => h.of_heap hh) own started (by kernel_rfl) Tryz.func4
    (ChangeSpec.witness_shaped (enc := enc) (C := Tryz.checked) (os := os) (X := fun w _ => laidMetH Tryz.prog Rows.valueHandlesRow.laid w) false (witWorld os)
      #[.agg #[.int .i64 0, .slice none 0 0, .slice none 0 0, .int .i64 0], .agg #[.int .i64 0, .slice none 0 0, .slice none 0 0]] 8 rfl (World.shaped_of_RefB (by kernel_rfl) (by kernel_rfl)) (by kernel_rfl) (by kernel_rfl) (by kernel_rfl) (door_met os _)) ?_
  intro W base args ds gs before hval0 hW _ hwei hL _
  have hval : ∀ (j : Nat) t v, Tryz.f4.params[j]? = some t → args[j]? = some v → Value.okWide Tryz.prog W .any base t v := hval0
  have hW' := hW
  obtain ⟨p, q, hA0, hV, rfl, hfz, hnd⟩ := hW
  have hA : DataW.TrodAll enc Tryz.prog W 0 (fun _ => true) true Tryz.f4.params.toList args.toList ds p := hA0
  have hwei' : (DataW.weightsEach Tryz.prog (Tryz.f4.params.toList ++ Rows.valueHandlesSpec.plain.varTypes Tryz.prog) (ds ++ gs)).all (· ≤ reachBytes) = true := hwei
  rw [Tryz.params4] at hA hval hwei'
  obtain ⟨v0, v1, d0, d1, p0, p1, rfl, rfl, rfl, h0, h1⟩ := trodAll_two hA
  obtain ⟨rfl, rfl⟩ := trodVars_none hV
  simp only [List.append_nil] at hW'
  obtain ⟨l0, l1⟩ := lig_two hwei'
  obtain ⟨s, hs, hsf⟩ : ∃ s : Tt, VpL W (fun k => k < W.heap.size) s.cells v0.cells.toList ∧ s.fits := by
    obtain ⟨fuel, h⟩ := h0
    exact typ_of typTypes _ _ _ h l0
  obtain ⟨u, hu, huf⟩ : ∃ u : Vl, VpL W (fun k => k < W.heap.size) u.cells v1.cells.toList ∧ u.fits := by
    obtain ⟨fuel, h⟩ := h1
    exact val_of _ _ _ h l1
  have hlaid : laidMet Tryz.prog Rows.valueHandlesRow.laid W := by
    have h := hL
    unfold laidMetH at h
    rw [show (Rows.valueHandlesRow.laid.filter fun x => x.2.handleName?.isSome) = [] by kernel_rfl] at h
    exact h
  refine (valueHandles_calls s u hsf huf (E := env0 W) rfl rfl (inv0 W) (glob0 hlaid) (agg_of rfl rfl hs (by rw [tcell_len]; omega)) (agg_of rfl rfl hu (by rw [cells_len]; omega))).mono fun e W' ⟨he, E', hw, hext⟩ => ?_
  subst he
  have hB : Below W.heap.size W W' := hw ▸ hext.below (no_mod W)
  have e1 : Rows.valueHandlesSpec.fn H ([d0, d1] ++ []) = { results := [.lit (.bool true)], args := [d0, d1] } := by simp [Rows.valueHandlesSpec]
  have t0 := Below.trod laidOut (by kernel_rfl) (of_decide_eq_true (by kernel_rfl)) h0 hB (fun x hx => hW'.lt x (by simp [hx]))
  have t1 := Below.trod laidOut (by kernel_rfl) (of_decide_eq_true (by kernel_rfl)) h1 hB (fun x hx => hW'.lt x (by simp [hx]))
  refine ⟨_, rfl, _, _, _, [], p0 ++ p1, [], hW', ?_, ?_, ?_, hB.frame _, fun h => by cases h⟩
  · rw [e1]; exact trodAll_mk1 (shut_bool Tryz.underlying4 true)
  · rw [e1]; exact trodAll_mk2 t0 t1
  · rw [e1]; rfl

theorem valueHandles_holds : Rows.ValueHandlesSaid :=
  OpenClaim.holds_of_wide 4 Tryz.f4 rfl rfl rfl rfl rfl rfl rfl ⟨rfl, rfl, rfl, rfl, rfl⟩ rfl rfl rfl rfl rfl (by kernel_rfl) Tryz.func4 (by kernel_rfl)
    (of_decide_eq_true (by kernel_rfl)) (by unfold Func.isWrapper; rw [if_neg (of_decide_eq_false (by kernel_rfl))]; exact ⟨rfl, rfl⟩)
    (fun os started H enc _ => valueHandles_lifted os started H enc)


theorem valueHandles_card : Rows.ValueHandlesCardSaid :=
  Claim7.holds_tied_plain_at .later [] [.data, .data, .data, .data, .pinned, .pinned] true (true, "b562329d2a4e582a472c743ebf0c0c482c6250c82062ba604534b3092be43105") false
    valueHandles_holds (fun _ h => by cases h) (by kernel_rfl) (fun _ h => by cases h) valueHandles_row_tie rfl ⟨rfl, rfl⟩ (by kernel_rfl) rfl
    (fun f fn hf hfn => by
      obtain rfl : f = 4 := Option.some.inj ((show Tryz.prog.funcNamed "scarf/scarflaw15.ValueHandles" = some 4 by kernel_rfl).symm.trans hf) |>.symm
      obtain rfl : fn = Tryz.f4 := (Option.some.inj (Tryz.func4.symm.trans hfn)).symm
      exact ⟨by kernel_rfl, fun j t ht => by
        rw [Tryz.params4] at ht
        have h3 : t = 25 ∨ t = 33 := by
          rcases j with _ | _ | j
          · left; simpa using ht.symm
          · right; simpa using ht.symm
          · simp at ht
        rcases h3 with rfl | rfl
        · exact (show Tryz.prog.wantsStandIn 25 = false by kernel_rfl)
        · exact (show Tryz.prog.wantsStandIn 33 = false by kernel_rfl)⟩)
    (by kernel_rfl)
#print axioms valueHandles_card
end Go.Proofs.YtmjnfdjhaopeiaaGreatDoor
