/-
  A part of the proof: Py4.
-/
import Derived.Test.YtmjnfdjhaopeiaaGreatDoorPy3
/-
  Listed variables in another order.
-/
namespace Go.Pvm
open Go

theorem LaidVars_perm {P : Program} {w : World} {l l' : List (String × DataW Unit)} (h : l.Perm l') : ∀ {ps : List MemPlace}, DataW.LaidVars P w l ps → ∃ ps', DataW.LaidVars P w l' ps' ∧ ps.Perm ps' := by
  induction h with
  | nil => intro ps h; exact ⟨ps, h, List.Perm.refl _⟩
  | cons x _ ih =>
    intro ps h
    obtain ⟨g, t, cs, fuel, p, q, h1, h2, h3, h4, h5, rfl⟩ := h
    obtain ⟨q', g1, g2⟩ := ih h5
    exact ⟨_, ⟨g, t, cs, fuel, p, q', h1, h2, h3, h4, g1, rfl⟩, List.Perm.append_left _ g2⟩
  | swap x y l =>
    intro ps h
    obtain ⟨g, t, cs, fuel, p, q, h1, h2, h3, h4, ⟨g', t', cs', fuel', p', q', k1, k2, k3, k4, k5, rfl⟩, rfl⟩ := h
    refine ⟨_, ⟨g', t', cs', fuel', p', _, k1, k2, k3, k4, ⟨g, t, cs, fuel, p, q', h1, h2, h3, h4, k5, rfl⟩, rfl⟩, ?_⟩
    have := List.Perm.append_right q' (List.perm_append_comm (l₁ := MemPlace.row ⟨g, 0, none⟩ cs.size ++ p) (l₂ := MemPlace.row ⟨g', 0, none⟩ cs'.size ++ p'))
    simpa only [List.append_assoc] using this
  | trans _ _ ih1 ih2 =>
    intro ps h
    obtain ⟨q, h1, h2⟩ := ih1 h
    obtain ⟨r, h3, h4⟩ := ih2 h1
    exact ⟨r, h3, h2.trans h4⟩

theorem laidMet_perm {P : Program} {w : World} {l l' : List (String × DataW Unit)} (h : l.Perm l') (hm : laidMet P l w) : laidMet P l' w := by
  obtain ⟨ps, h1, h2, h3⟩ := hm
  obtain ⟨ps', g1, g2⟩ := LaidVars_perm h h1
  exact ⟨ps', g1, g2.nodup_iff.1 h2, fun b off hb => h3 b off (g2.mem_iff.2 hb)⟩
end Go.Pvm
