/-
  A part of the proof: Z21.
-/
import Derived.Test.YtmjnfdjhaopeiaaGreatDoorZG
import Derived.Test.YtmjnfdjhaopeiaaGreatDoorPz5
import Derived.Test.YtmjnfdjhaopeiaaGreatDoorPy4
import Derived.Lib.LaidCaseMet
import Derived.ProofKit
import Derived.LaidHandle
import Derived.LaidMore
import Derived.LaidOnce
import Derived.Stop.Joined
import Derived.Test.YtmjnfdjhaopeiaaGreatDoorTie
namespace Go.Proofs.YtmjnfdjhaopeiaaGreatDoor
open Go Go.Pvm Go.ChangeShapes Go.WideShapes Go.ChangeAt Go.RowKit
set_option maxRecDepth 100000

section
variable {H : Type} {enc : TypeId × Value → H} {w : World} {base : Nat} {spare : Nat → Bool} {held : Bool}

theorem typTypes : TypTypes Tryz.prog 25 3 9 22 23 where
  hn := Tryz.underlying3
  hx := Tryz.underlying9
  hns := Tryz.underlying22
  hts := Tryz.underlying23
  ht := ⟨_, _, _, _, Tryz.underlying25, rfl, rfl, rfl, rfl, rfl, rfl, rfl, rfl⟩
  cn := by kernel_rfl
  cx := by kernel_rfl
  cns := by kernel_rfl
  cts := by kernel_rfl
  ct := by kernel_rfl
  bx := Nat.lt_of_lt_of_eq (by decide : 0 < 16) (by kernel_rfl)
  bt := Nat.lt_of_lt_of_eq (by decide : 0 < 64) (by kernel_rfl)

theorem vfits_of : ∀ {l : List Vl}, (∀ v ∈ l, v.fits) → vfits l
  | [], _ => by unfold vfits; trivial
  | v :: r, h => by unfold vfits; exact ⟨h v (by simp), vfits_of fun u hu => h u (by simp [hu])⟩

theorem val_of : ∀ (fuel : Nat) (cs : List Value) (x : DataW H × List MemPlace), DataW.trod enc Tryz.prog w base spare held fuel 33 cs = some x → Lig Tryz.prog 33 x.1 →
    ∃ a : Vl, VpL w (fun k => k < w.heap.size) a.cells cs ∧ a.fits := by
  intro fuel
  induction fuel using Nat.strongRecOn with
  | _ fuel ih =>
    intro cs x h hw
    obtain ⟨f0, f1, f2, hv, e0, e1, e2, o0, o1, o2⟩ : ∃ f0 f1 f2 : Field, Tryz.prog.underlying 33 = some (.struct #[f0, f1, f2]) ∧ f0.type = 3 ∧ f1.type = 31 ∧ f2.type = 28 ∧ f0.offset = 0 ∧ f1.offset = 1 ∧ f2.offset = 2 := ⟨_, _, _, Tryz.underlying33, rfl, rfl, rfl, rfl, rfl, rfl⟩
    obtain ⟨xs, n, rfl, rfl, hlen, hxl, hf⟩ := DataW.trod_struct hv h
    rw [show Tryz.prog.cellsOf 33 = 3 by kernel_rfl] at hlen
    have hw1 : ∀ n ∈ DataW.weights Tryz.prog 33 (.agg (xs.map (·.1))), n ≤ 140737488355328 := hw
    unfold DataW.weights at hw1
    rw [hv] at hw1
    match cs, hlen with
    | [v0, v1, v2], _ =>
      have hx : xs.length = 3 := by simpa using hxl
      have h0 := hf 0 f0 rfl
      have h1 := hf 1 f1 rfl
      have h2 := hf 2 f2 rfl
      match xs, hx with
      | [a0, a1, a2], _ =>
        rw [e0, o0, show Tryz.prog.cellsOf 3 = 1 by kernel_rfl] at h0
        rw [e1, o1, show Tryz.prog.cellsOf 31 = 1 by kernel_rfl] at h1
        rw [e2, o2, show Tryz.prog.cellsOf 28 = 1 by kernel_rfl] at h2
        simp only [List.drop_zero, List.take_succ_cons, List.take_zero, List.drop_succ_cons] at h0 h1 h2
        simp only [List.map_cons, List.map_nil, DataW.weightsEach, List.append_nil, e0, e1, e2] at hw1
        obtain ⟨N, en, _, hN⟩ := DataW.trod_int Tryz.underlying3 h0
        obtain rfl := (List.cons.inj en).1
        have hN' : IntKind.i64.min ≤ N ∧ N ≤ IntKind.i64.max := by simpa [Lit.wf] using hN
        obtain ⟨u1, us, ss, eu, hss, _, _⟩ := ints_fit Tryz.underlying3 Tryz.underlying31 (by kernel_rfl) h1 (Nat.lt_of_lt_of_eq (by decide : 0 < 8) (by kernel_rfl)) (fun n hn => hw1 n (List.mem_append_right _ (List.mem_append_left _ hn)))
        obtain rfl := (List.cons.inj eu).1
        obtain ⟨u2, ul, l, eu, hl, hll, hfit⟩ := slice_of Vl.cells 3 (by decide) cells_len Vl.fits Tryz.underlying28 (by kernel_rfl) h2 (Nat.lt_of_lt_of_eq (by decide : 0 < 56) (by kernel_rfl)) (fun n hn => hw1 n (List.mem_append_right _ (List.mem_append_right _ hn))) (fun m' hm' cs y hy hl => ih m' (by omega) cs y hy hl)
        obtain rfl := (List.cons.inj eu).1
        rw [← cellsL_cat] at hl
        refine ⟨.mk N us ss ul l, ⟨_, _, rfl, rfl, _, _, rfl, hss, _, _, rfl, hl, rfl⟩, ?_⟩
        unfold Vl.fits
        exact ⟨hN', vfits_of hfit⟩

theorem vals_of {fuel : Nat} {cs : List Value} {x : DataW H × List MemPlace} (h : DataW.trod enc Tryz.prog w base spare held fuel 28 cs = some x) (hw : Lig Tryz.prog 28 x.1) :
    ∃ (v : Value) (u : Bool) (L : List Vl), cs = [v] ∧ Vp w (fun k => k < w.heap.size) (.sl u L.length (cellsL L)) v ∧ L.length ≤ 140737488355328 ∧ ∀ v ∈ L, v.fits := by
  obtain ⟨v, u, l, e, hl, hll, hfit⟩ := slice_of Vl.cells 3 (by decide) cells_len Vl.fits Tryz.underlying28 (by kernel_rfl) h (Nat.lt_of_lt_of_eq (by decide : 0 < 56) (by kernel_rfl)) hw (fun m' hm' cs y hy hl => val_of m' cs y hy hl)
  rw [← cellsL_cat] at hl
  exact ⟨v, u, l, e, hl, hll, hfit⟩

theorem sig_of {fuel : Nat} {cs : List Value} {x : DataW H × List MemPlace} (h : DataW.trod enc Tryz.prog w base spare held fuel 27 cs = some x) (hw : Lig Tryz.prog 27 x.1) :
    ∃ s : Sg, VpL w (fun k => k < w.heap.size) s.cells cs ∧ s.fits := by
  obtain ⟨v0, v1, v2, r, m, y0, y1, y2, y3, hm, rfl, h0, h1, h2, h3, w1, w2, w3⟩ := struct4 (k := 4) Tryz.underlying27 rfl rfl rfl rfl (by kernel_rfl) (by kernel_rfl) (by kernel_rfl) (by kernel_rfl) (by kernel_rfl) h hw
  obtain ⟨nm, en, _, _⟩ := DataW.trod_string Tryz.underlying9 h0
  obtain rfl := (List.cons.inj en).1
  obtain ⟨u1, pu, p, eu, hp, hpl⟩ := strs_fit Tryz.underlying9 Tryz.underlying22 (by kernel_rfl) h1 typTypes.bx w1
  obtain rfl := (List.cons.inj eu).1
  obtain ⟨u2, tu, t, eu, ht, htl, hfit⟩ := slice_of Tt.cells 4 (by decide) tcell_len Tt.fits Tryz.underlying23 (by kernel_rfl) h2 typTypes.bt w2 (fun m' hm' cs y hy hl => typ_of typTypes m' cs y hy hl)
  obtain rfl := (List.cons.inj eu).1
  rw [← tcells_cat] at ht
  obtain ⟨a, ha, haf⟩ := typ_of typTypes m _ _ h3 w3
  exact ⟨⟨nm, pu, p, tu, t, a⟩, ⟨_, _, rfl, rfl, _, _, rfl, hp, _, _, rfl, ht, ha⟩, hpl, htl, tfits_of hfit, haf⟩
end
end Go.Proofs.YtmjnfdjhaopeiaaGreatDoor
