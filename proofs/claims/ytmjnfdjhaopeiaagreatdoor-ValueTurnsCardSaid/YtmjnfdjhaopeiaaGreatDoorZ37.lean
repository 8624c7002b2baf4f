/-
  A part of the proof: Z37.
-/
import Derived.Test.YtmjnfdjhaopeiaaGreatDoorZL
import Derived.Test.YtmjnfdjhaopeiaaGreatDoorZ22
import Derived.Test.YtmjnfdjhaopeiaaGreatDoorCards
import Derived.SevenTiedAt
namespace Go.Proofs.YtmjnfdjhaopeiaaGreatDoor
open Go Go.Pvm Go.ChangeShapes Go.WideShapes Go.ChangeAt Go.RowKit
set_option maxRecDepth 100000

/-- A call of ValueTurns, whatever the tape. -/
theorem valueTurns_calls (t : Tt) (v : Vl) (u : Bool) (ns : List Int) (hf : t.fits) (hvf : v.fits) {E : Env} (hS : E.S = ⟨[], 0⟩) (hL : E.L = []) (hI : Inv E) (hG : Glob cfg E) {v0 v1 v2 : Value}
    (h0 : W E (.agg t.cells) v0) (h1 : W E (.agg v.cells) v1) (h2 : W E (.sl u ns.length (ns.map i64)) v2) :
    Calls Tryz.prog f_scarflaw15_ValueTurns #[v0, v1, v2] E.w fun e w' => e = .returned (.bool true) ∧ ∃ E', E'.w = w' ∧ Ext E E' := by
  obtain ⟨n, hn⟩ := ValueTurns_run t v u ns hf hvf
  have h := (run_sound intrOK n _ _ ⟨[], 0⟩ _ _ hn E hS hL hI hG [v0, v1, v2] ⟨v0, _, rfl, h0, v1, _, rfl, h1, v2, _, rfl, h2, rfl⟩).2
  refine h.mono fun e w' => ?_
  rintro ⟨v, E', rfl, rfl, _, _, hext, _, hv⟩
  exact ⟨by rw [show v = .bool true from hv], E', rfl, hext⟩

theorem valueTurns_lifted (os : Os) (started : os.Started) (H : Type) (enc : TypeId × Value → H) :
    ReturnsInHanded {} Tryz.checked os 5 .any (fun w args => (Rows.valueTurnsSpec.pre enc Tryz.prog Tryz.f5 [] false w args ∧ laidMetH Tryz.prog Rows.valueTurnsRow.laid w) ∧ sizedMet enc Tryz.prog Tryz.f5 (OpenSpec.ofChange Rows.valueTurnsSpec) false w args)
      (Rows.valueTurnsSpec.post enc Tryz.prog Tryz.f5 false true false false) := by
  refine returnsInHanded_of_change_and (C := Tryz.checked) (X := fun w _ => laidMetH Tryz.prog Rows.valueTurnsRow.laid w) (fun _ _ _ hh h => h.of_heap hh) own started (by kernel_rfl) Tryz.func5
    (ChangeSpec.witness_shaped (enc := enc) (C := Tryz.checked) (os := os) (X := fun w _ => laidMetH Tryz.prog Rows.valueTurnsRow.laid w) false (witWorld os)
      #[.agg #[.int .i64 0, .slice none 0 0, .slice none 0 0, .int .i64 0], .agg #[.int .i64 0, .slice none 0 0, .slice none 0 0], .slice none 0 0] 8 rfl (World.shaped_of_RefB (by kernel_rfl) (by kernel_rfl)) (by kernel_rfl) (by kernel_rfl) (by kernel_rfl) (door_met os _)) ?_
  intro W base args ds gs before hval0 hW _ hwei hL _
  have hval : ∀ (j : Nat) t v, Tryz.f5.params[j]? = some t → args[j]? = some v → Value.okWide Tryz.prog W .any base t v := hval0
  have hW' := hW
  obtain ⟨p, q, hA0, hV, rfl, hfz, hnd⟩ := hW
  have hA : DataW.TrodAll enc Tryz.prog W 0 (fun _ => true) true Tryz.f5.params.toList args.toList ds p := hA0
  have hwei' : (DataW.weightsEach Tryz.prog (Tryz.f5.params.toList ++ Rows.valueTurnsSpec.plain.varTypes Tryz.prog) (ds ++ gs)).all (· ≤ reachBytes) = true := hwei
  rw [Tryz.params5] at hA hval hwei'
  obtain ⟨v0, v1, v2, d0, d1, d2, p0, p1, p2, rfl, rfl, rfl, h0, h1, h2⟩ := trodAll_three hA
  obtain ⟨rfl, rfl⟩ := trodVars_none hV
  simp only [List.append_nil] at hW'
  obtain ⟨l0, l1, l2⟩ := lig_three hwei'
  obtain ⟨s, hs, hsf⟩ : ∃ s : Tt, VpL W (fun k => k < W.heap.size) s.cells v0.cells.toList ∧ s.fits := by
    obtain ⟨fuel, h⟩ := h0
    exact typ_of typTypes _ _ _ h l0
  obtain ⟨u, hu, huf⟩ : ∃ u : Vl, VpL W (fun k => k < W.heap.size) u.cells v1.cells.toList ∧ u.fits := by
    obtain ⟨fuel, h⟩ := h1
    exact val_of _ _ _ h l1
  obtain ⟨x2, un, ns, e2, hns, _, _⟩ : ∃ (x : Value) (u : Bool) (ns : List Int), v2.cells.toList = [x] ∧ Vp W (fun k => k < W.heap.size) (.sl u ns.length (ns.map i64)) x ∧ ns.length ≤ 140737488355328 ∧ ∀ z ∈ ns, -9223372036854775808 ≤ z ∧ z ≤ 9223372036854775807 := by
    obtain ⟨fuel, h⟩ := h2
    exact ints_fit Tryz.underlying3 Tryz.underlying31 (by kernel_rfl) h (Nat.lt_of_lt_of_eq (by decide : 0 < 8) (by kernel_rfl)) l2
  have hv2 : v2 = x2 := one_of e2 (okWide_slice Tryz.underlying31 (hval 2 31 v2 rfl rfl))
  subst hv2
  have hlaid : laidMet Tryz.prog Rows.valueTurnsRow.laid W := by
    have h := hL
    unfold laidMetH at h
    rw [show (Rows.valueTurnsRow.laid.filter fun x => x.2.handleName?.isSome) = [] by kernel_rfl] at h
    exact h
  refine (valueTurns_calls s u un ns hsf huf (E := env0 W) rfl rfl (inv0 W) (glob0 hlaid) (agg_of rfl rfl hs (by rw [tcell_len]; omega)) (agg_of rfl rfl hu (by rw [cells_len]; omega)) hns).mono fun e W' ⟨he, E', hw, hext⟩ => ?_
  subst he
  have hB : Below W.heap.size W W' := hw ▸ hext.below (no_mod W)
  have e1 : Rows.valueTurnsSpec.fn H ([d0, d1, d2] ++ []) = { results := [.lit (.bool true)], args := [d0, d1, d2] } := by simp [Rows.valueTurnsSpec]
  have t0 := Below.trod laidOut (by kernel_rfl) (of_decide_eq_true (by kernel_rfl)) h0 hB (fun x hx => hW'.lt x (by simp [hx]))
  have t1 := Below.trod laidOut (by kernel_rfl) (of_decide_eq_true (by kernel_rfl)) h1 hB (fun x hx => hW'.lt x (by simp [hx]))
  have t2 := Below.trod laidOut (by kernel_rfl) (of_decide_eq_true (by kernel_rfl)) h2 hB (fun x hx => hW'.lt x (by simp [hx]))
  refine ⟨_, rfl, _, _, _, [], p0 ++ (p1 ++ p2), [], hW', ?_, ?_, ?_, hB.frame _, fun h => by cases h⟩
  · rw [e1]; exact trodAll_mk1 (shut_bool Tryz.underlying4 true)
  · rw [e1]; exact trodAll_mk3 t0 t1 t2
  · rw [e1]; rfl

theorem valueTurns_holds : Rows.ValueTurnsSaid :=
  OpenClaim.holds_of_wide 5 Tryz.f5 rfl rfl rfl rfl rfl rfl rfl ⟨rfl, rfl, rfl, rfl, rfl⟩ rfl rfl rfl rfl rfl (by kernel_rfl) Tryz.func5 (by kernel_rfl)
    (of_decide_eq_true (by kernel_rfl)) (by unfold Func.isWrapper; rw [if_neg (of_decide_eq_false (by kernel_rfl))]; exact ⟨rfl, rfl⟩)
    (fun os started H enc _ => valueTurns_lifted os started H enc)


theorem valueTurns_card : Rows.ValueTurnsCardSaid :=
  Claim7.holds_tied_plain_at .later [] [.data, .data, .data, .data, .pinned, .pinned] true (true, "b562329d2a4e582a472c743ebf0c0c482c6250c82062ba604534b3092be43105") false
    valueTurns_holds (fun _ h => by cases h) (by kernel_rfl) (fun _ h => by cases h) valueTurns_row_tie rfl ⟨rfl, rfl⟩ (by kernel_rfl) rfl
    (fun f fn hf hfn => by
      obtain rfl : f = 5 := Option.some.inj ((show Tryz.prog.funcNamed "scarf/scarflaw15.ValueTurns" = some 5 by kernel_rfl).symm.trans hf) |>.symm
      obtain rfl : fn = Tryz.f5 := (Option.some.inj (Tryz.func5.symm.trans hfn)).symm
      exact ⟨by kernel_rfl, fun j t ht => by
        rw [Tryz.params5] at ht
        have h3 : t = 25 ∨ t = 33 ∨ t = 31 := by
          rcases j with _ | _ | _ | j
          · left; simpa using ht.symm
          · right; left; simpa using ht.symm
          · right; right; simpa using ht.symm
          · simp at ht
        rcases h3 with rfl | rfl | rfl
        · exact (show Tryz.prog.wantsStandIn 25 = false by kernel_rfl)
        · exact (show Tryz.prog.wantsStandIn 33 = false by kernel_rfl)
        · exact (show Tryz.prog.wantsStandIn 31 = false by kernel_rfl)⟩)
    (by kernel_rfl)
#print axioms valueTurns_card
end Go.Proofs.YtmjnfdjhaopeiaaGreatDoor
