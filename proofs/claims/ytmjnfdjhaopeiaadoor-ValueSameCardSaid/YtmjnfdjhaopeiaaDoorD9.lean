/-
  A part of the proof: D9.
-/
import Derived.Test.YtmjnfdjhaopeiaaDoorD8
import Derived.Test.YtmjnfdjhaopeiaaDoorTie
import Derived.Test.YtmjnfdjhaopeiaaDoorCards
import Derived.SevenTiedAt
namespace Go.Proofs.YtmjnfdjhaopeiaaDoor
open Go
set_option maxRecDepth 100000
theorem valueSame_holds : Rows.ValueSameSaid :=
  OpenClaim.holds_of_wide 3 Tryd.f3 rfl rfl rfl rfl rfl rfl rfl ⟨rfl, rfl, rfl, rfl, rfl⟩ rfl rfl rfl rfl rfl (by kernel_rfl) Tryd.func3 (by kernel_rfl)
    (of_decide_eq_true (by kernel_rfl)) (by unfold Func.isWrapper; rw [if_neg (of_decide_eq_false (by kernel_rfl))]; exact ⟨rfl, rfl⟩)
    (fun os started H enc _ => valueSame_lifted os started H enc)

theorem valueSame_card : Rows.ValueSameCardSaid :=
  Claim7.holds_tied_plain_at .later [] [.data, .data, .data, .data, .pinned, .pinned] true (true, "59ffaae7cf6915a0ec3d36a51d23099bf2fbc5893057530275c33c87c20a1aec") false
    valueSame_holds (fun _ h => by cases h) (by kernel_rfl) (fun _ h => by cases h) valueSame_row_tie rfl ⟨rfl, rfl⟩ (by kernel_rfl) rfl
    (fun f fn hf hfn => by
      obtain rfl : f = 3 := Option.some.inj ((show Tryd.prog.funcNamed "scarf/scarflaw15.ValueSame" = some 3 by kernel_rfl).symm.trans hf) |>.symm
      obtain rfl : fn = Tryd.f3 := (Option.some.inj (Tryd.func3.symm.trans hfn)).symm
      exact ⟨by kernel_rfl, fun j t ht => by
        rw [Tryd.params3] at ht
        have h3 : t = 25 := by
          rcases j with _ | _ | j
          · simpa using ht.symm
          · simpa using ht.symm
          · simp at ht
        subst h3
        exact (show Tryd.prog.wantsStandIn 25 = false by kernel_rfl)⟩)
    (by kernel_rfl)
#print axioms valueSame_card
end Go.Proofs.YtmjnfdjhaopeiaaDoor
