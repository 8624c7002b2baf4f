/-
  A part of the proof: Pv13.
-/
import Derived.Test.YtmjnfdjhaopeiaaGreatDoorPw4
/-
  PVM, part 13: code.
-/
namespace Go.Pvm
open Go
section
variable {C : Cfg} {rn : FuncId → List PV → Store → Option (PV × Store)} {f : FuncId}

def X.to : X → Exit
  | .normal => .normal
  | .exit id => .exit id
  | .ret => .ret

/-- What code comes to. -/
def XPost (C : Cfg) (E0 : Env) (x : X) (F' : Fr) : Exit → Act → World → Prop := fun e a' w' => e = x.to ∧ ∃ E', E'.w = w' ∧ FOK C E0 E' F' a'

theorem XPost.of {E0 E : Env} {x : X} {F : Fr} {a : Act} (h : FOK C E0 E F a) : XPost C E0 x F x.to a E.w := ⟨rfl, E, rfl, h⟩

theorem iter_sound {E0 : Env} {c : Code} {g : Fr → Option (X × Fr)}
    (hg : ∀ F x F' E a, FOK C E0 E F a → g F = some (x, F') → c.wp C.P (XPost C E0 x F') a E.w) :
    ∀ n F x F' E a, FOK C E0 E F a → iter C f g n F = some (x, F') → Code.rounds C.P c (XPost C E0 x F') n a E.w
  | 0, F, x, F', E, a, _, hr => by simp [iter] at hr
  | n + 1, F, x, F', E, a, h, hr => by
    obtain ⟨E1, hw1, h1⟩ := h.clear (f := f)
    simp only [iter] at hr
    rw [rounds_succ, ← hw1]
    cases hgr : g (F.clear C f) with
    | none => rw [hgr] at hr; cases hr
    | some y =>
      obtain ⟨x1, F1⟩ := y
      rw [hgr] at hr
      refine wp_mono (hg _ _ _ E1 a h1 hgr) ?_
      rintro e a' w' ⟨rfl, E2, rfl, h2⟩
      cases x1 with
      | normal => exact iter_sound hg n F1 x F' E2 a' h2 hr
      | exit id =>
        obtain ⟨rfl, rfl⟩ := Prod.mk.inj (Option.some.inj hr)
        exact XPost.of h2
      | ret =>
        obtain ⟨rfl, rfl⟩ := Prod.mk.inj (Option.some.inj hr)
        exact XPost.of h2

theorem exec_sound (hcall : CallOK C (callF C rn)) {n : Nat} {E0 : Env} : ∀ (c : Code) (F : Fr) (x : X) (F' : Fr) (E : Env) (a : Act), FOK C E0 E F a → exec C (callF C rn) f n c F = some (x, F') →
    c.wp C.P (XPost C E0 x F') a E.w
  | .skip, F, x, F', E, a, h, hr => by
    simp only [exec] at hr
    obtain ⟨rfl, rfl⟩ := Prod.mk.inj (Option.some.inj hr)
    exact wp_skip (XPost.of h)
  | .label _, F, x, F', E, a, h, hr => by
    simp only [exec] at hr
    obtain ⟨rfl, rfl⟩ := Prod.mk.inj (Option.some.inj hr)
    exact wp_label (XPost.of h)
  | .region _ ops draw, F, x, F', E, a, h, hr => by
    simp only [exec] at hr
    obtain ⟨F1, h1, h2⟩ := Option.map_eq_some_iff.1 hr
    obtain ⟨rfl, rfl⟩ := Prod.mk.inj h2
    cases draw with
    | true => exact runDraw_sound hcall h h1 fun E' a' h' => XPost.of h'
    | false => exact wp_region (runOps_sound hcall _ _ _ E a h h1 fun E' a' h' => XPost.of h')
  | .seq c1 c2, F, x, F', E, a, h, hr => by
    simp only [exec] at hr
    apply wp_seq
    cases h1 : exec C (callF C rn) f n c1 F with
    | none => rw [h1] at hr; cases hr
    | some y =>
      obtain ⟨x1, F1⟩ := y
      rw [h1] at hr
      refine wp_mono (exec_sound hcall c1 F x1 F1 E a h h1) ?_
      rintro e a' w' ⟨rfl, E2, rfl, h2⟩
      cases x1 with
      | normal => exact exec_sound hcall c2 F1 x F' E2 a' h2 hr
      | exit id =>
        obtain ⟨rfl, rfl⟩ := Prod.mk.inj (Option.some.inj hr)
        exact XPost.of h2
      | ret =>
        obtain ⟨rfl, rfl⟩ := Prod.mk.inj (Option.some.inj hr)
        exact XPost.of h2
  | .cond c c1 c2, F, x, F', E, a, h, hr => by
    simp only [exec] at hr
    have hv := h.ev c
    split at hr
    · rename_i t ht
      rw [ht] at hv
      have hv' : a.eval c = .bool t := hv
      apply wp_cond hv'
      cases t with
      | true => exact exec_sound hcall c1 F x F' E a h hr
      | false => exact exec_sound hcall c2 F x F' E a h hr
    · cases hr
  | .block id c, F, x, F', E, a, h, hr => by
    simp only [exec] at hr
    apply wp_block
    cases h1 : exec C (callF C rn) f n c F with
    | none => rw [h1] at hr; cases hr
    | some y =>
      obtain ⟨x1, F1⟩ := y
      rw [h1] at hr
      refine wp_mono (exec_sound hcall c F x1 F1 E a h h1) ?_
      rintro e a' w' ⟨rfl, E2, rfl, h2⟩
      cases x1 with
      | normal =>
        obtain ⟨rfl, rfl⟩ := Prod.mk.inj (Option.some.inj hr)
        exact XPost.of h2
      | exit j =>
        simp only at hr
        simp only [X.to, Exit.inBlock]
        by_cases e : j = id
        · rw [if_pos e] at hr ⊢
          obtain ⟨rfl, rfl⟩ := Prod.mk.inj (Option.some.inj hr)
          exact XPost.of h2
        · rw [if_neg e] at hr ⊢
          obtain ⟨rfl, rfl⟩ := Prod.mk.inj (Option.some.inj hr)
          exact XPost.of h2
      | ret =>
        obtain ⟨rfl, rfl⟩ := Prod.mk.inj (Option.some.inj hr)
        exact XPost.of h2
  | .loop c, F, x, F', E, a, h, hr => by
    simp only [exec] at hr
    exact wp_loop_rounds n (iter_sound (fun F x F' E a h hg => exec_sound hcall c F x F' E a h hg) n F x F' E a h hr)
  | .exit id, F, x, F', E, a, h, hr => by
    simp only [exec] at hr
    obtain ⟨rfl, rfl⟩ := Prod.mk.inj (Option.some.inj hr)
    exact wp_exit (XPost.of (x := .exit id) h)
  | .ret, F, x, F', E, a, h, hr => by
    simp only [exec] at hr
    obtain ⟨rfl, rfl⟩ := Prod.mk.inj (Option.some.inj hr)
    exact wp_ret (XPost.of (x := .ret) h)
  | .rangeFunc _ _ _ _, F, x, F', E, a, h, hr => by simp [exec] at hr
  | .scope _, F, x, F', E, a, h, hr => by simp [exec] at hr
  | .goto _, F, x, F', E, a, h, hr => by simp [exec] at hr
  | .refuse _, F, x, F', E, a, h, hr => by simp [exec] at hr
end
end Go.Pvm
