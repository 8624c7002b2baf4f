/-
  A part of the proof: Pz5.
-/
import Derived.Test.YtmjnfdjhaopeiaaGreatDoorPzA
import Derived.Test.YtmjnfdjhaopeiaaGreatDoorPy2
/-
  What arguments of type api.Type, api.Val, lists of them read as are trees that fit.
-/
namespace Go.Pvm
open Go

variable {H : Type} {enc : TypeId × Value → H} {P : Program} {w : World} {base : Nat} {spare : Nat → Bool} {held : Bool}

theorem VpC_cat {β : Type} {f : β → List PV} {k0 : Nat} (hlen : ∀ b, (f b).length = k0) {w : World} {G : Nat → Prop} : ∀ {l : List β} {k o : Nat}, (∀ i v, l[i]? = some v → VpC w G (f v) k (o + i * k0)) → VpC w G (cat f l) k o
  | [], k, o, _ => trivial
  | v :: r, k, o, h => by
    refine VpC_append.2 ⟨by simpa using h 0 v rfl, ?_⟩
    rw [hlen]
    refine VpC_cat hlen fun i u hu => ?_
    have := h (i + 1) u (by simpa using hu)
    rwa [show o + (i + 1) * k0 = o + k0 + i * k0 by rw [Nat.add_mul]; omega] at this

/-- How much room lists take is bounded. -/
def Lig (P : Program) (t : TypeId) (d : DataW H) : Prop := ∀ n ∈ d.weights P t, n ≤ 140737488355328

theorem mem_weightsAll {P : Program} {e : TypeId} {n : Nat} : ∀ {l : List (DataW H)} {d : DataW H}, d ∈ l → n ∈ d.weights P e → n ∈ DataW.weightsAll P e l
  | [], _, h, _ => by cases h
  | x :: r, d, h, hn => by
    unfold DataW.weightsAll
    rcases List.mem_cons.1 h with rfl | h
    · exact List.mem_append_left _ hn
    · exact List.mem_append_right _ (mem_weightsAll h hn)

/-- A row of things, each of k cells. -/
theorem slice_of {β : Type} (f : β → List PV) (k0 : Nat) (hk : 0 < k0) (hlen : ∀ b, (f b).length = k0) (Good : β → Prop) {te ts : TypeId} (hs : P.underlying ts = some (.slice te)) (hc : P.cellsOf te = k0)
    {fuel : Nat} {cs0 : List Value} {x : DataW H × List MemPlace} (h : DataW.trod enc P w base spare held fuel ts cs0 = some x) (hb : 0 < P.bytesOf te) (hw : Lig P ts x.1)
    (hel : ∀ m, m < fuel → ∀ (cs : List Value) (y : DataW H × List MemPlace), DataW.trod enc P w base spare held m te cs = some y → Lig P te y.1 → ∃ b : β, VpL w (fun k => k < w.heap.size) (f b) cs ∧ Good b) :
    ∃ (v : Value) (us : Bool) (l : List β), cs0 = [v] ∧ Vp w (fun k => k < w.heap.size) (.sl us l.length (cat f l)) v ∧ l.length ≤ 140737488355328 ∧ ∀ b ∈ l, Good b := by
  rcases DataW.trod_slice hs h with ⟨rfl, _⟩ | ⟨a, len, cap, elems, rest, m, hm, rfl, rfl, _, hl, hcap, he, helm, _, _⟩
  · exact ⟨_, true, [], rfl, ⟨none, 0, rfl, Nat.le_refl _, fun _ => rfl, .inl rfl⟩, Nat.zero_le _, fun b hb => by cases hb⟩
  · have hw1 : ∀ n ∈ DataW.weights P ts (.slice (elems.map (·.1)) (rest.map (·.1))), n ≤ 140737488355328 := hw
    unfold DataW.weights at hw1
    rw [hs] at hw1
    simp only [List.length_map] at hw1
    have hlen47 : len ≤ 140737488355328 := by
      have h1 := hw1 _ (List.mem_cons_self ..)
      have h2 := Nat.le_mul_of_pos_right (elems.length + rest.length) hb
      omega
    have hi : ∀ i, i < len → ∃ v : β, (∃ cs : List Value, w.cells? base (a.add (i * k0)) k0 = some cs ∧ VpL w (fun k => k < w.heap.size) (f v) cs) ∧ Good v := by
      intro i hi
      have h3 := helm i hi
      rw [List.getElem?_eq_getElem (by omega), hc] at h3
      obtain ⟨cs, h4, h5⟩ := Option.bind_eq_some_iff.1 h3
      obtain ⟨v, hv, hg⟩ := hel m (by omega) cs _ h5 (fun n hn => hw1 n (List.mem_cons_of_mem _ (List.mem_append_left _ (mem_weightsAll (List.mem_map_of_mem (List.getElem_mem (by omega))) hn))))
      exact ⟨v, ⟨cs, h4, hv⟩, hg⟩
    obtain ⟨l, hll, hls⟩ := list_of len hi
    refine ⟨_, false, l, rfl, ⟨some a, cap, by rw [hll], by omega, fun e => (by cases e), ?_⟩, by omega, fun b hb => ?_⟩
    · cases l with
      | nil => exact .inl rfl
      | cons v l =>
        obtain ⟨⟨cs0, g1, g2⟩, _⟩ := hls 0 v rfl
        obtain ⟨g3, g4⟩ := cells?_get g1
        have g5 := g4 0 (by omega)
        rw [List.getElem?_eq_getElem (by omega)] at g5
        rw [show (a.add (0 * k0)).add 0 = a by simp [Addr.add]] at g5
        obtain ⟨ea, hlt⟩ := cell_spot g5
        refine .inr ⟨a.block, a.off, by rw [← ea], hlt, VpC_cat hlen fun i u hu => ?_⟩
        obtain ⟨⟨cs1, k1, k2⟩, _⟩ := hls i u hu
        obtain ⟨k3, k4⟩ := cells?_get k1
        obtain ⟨q1, q2⟩ := VpL_iff.1 k2
        refine VpC_iff.2 fun j p hp => ?_
        have hj : j < k0 := by
          have := (List.getElem?_eq_some_iff.1 hp).1
          rw [hlen] at this; exact this
        have k5 := k4 j hj
        rw [List.getElem?_eq_getElem (by omega)] at k5
        rw [ea, add_plain, add_plain] at k5
        exact ⟨_, k5, q2 j p _ hp (List.getElem?_eq_getElem (by omega))⟩
    · obtain ⟨i, hi, rfl⟩ := List.getElem_of_mem hb
      exact (hls i _ (List.getElem?_eq_getElem hi)).2

theorem cat_one {α : Type} (f : α → PV) : ∀ l : List α, cat (fun x => [f x]) l = l.map f
  | [] => rfl
  | x :: l => by simp [cat, cat_one f l]

theorem ints_fit {tn ts : TypeId} (hn : P.underlying tn = some (.int .i64)) (hs : P.underlying ts = some (.slice tn)) (hc : P.cellsOf tn = 1) {fuel : Nat} {cs : List Value} {x : DataW H × List MemPlace}
    (h : DataW.trod enc P w base spare held fuel ts cs = some x) (hb : 0 < P.bytesOf tn) (hw : Lig P ts x.1) : ∃ (v : Value) (us : Bool) (ss : List Int), cs = [v] ∧ Vp w (fun k => k < w.heap.size) (.sl us ss.length (ss.map i64)) v ∧ ss.length ≤ 140737488355328 ∧ ∀ z ∈ ss, -9223372036854775808 ≤ z ∧ z ≤ 9223372036854775807 := by
  obtain ⟨v, us, l, e, h1, h2, h3⟩ := slice_of (fun z : Int => [i64 z]) 1 (by decide) (fun _ => rfl) (fun z => -9223372036854775808 ≤ z ∧ z ≤ 9223372036854775807) hs hc h hb hw (fun m _ cs y hy _ => by
    obtain ⟨z, rfl, _, hw⟩ := DataW.trod_int hn hy
    have hw' : IntKind.i64.min ≤ z ∧ z ≤ IntKind.i64.max := by simpa [Lit.wf] using hw
    exact ⟨z, ⟨_, _, rfl, rfl, rfl⟩, hw'⟩)
  rw [cat_one] at h1
  exact ⟨v, us, l, e, h1, h2, h3⟩

theorem strs_fit {tn ts : TypeId} (hn : P.underlying tn = some .string) (hs : P.underlying ts = some (.slice tn)) (hc : P.cellsOf tn = 1) {fuel : Nat} {cs : List Value} {x : DataW H × List MemPlace}
    (h : DataW.trod enc P w base spare held fuel ts cs = some x) (hb : 0 < P.bytesOf tn) (hw : Lig P ts x.1) : ∃ (v : Value) (us : Bool) (ss : List ByteArray), cs = [v] ∧ Vp w (fun k => k < w.heap.size) (.sl us ss.length (ss.map str)) v ∧ ss.length ≤ 140737488355328 := by
  obtain ⟨v, us, l, e, h1, h2, _⟩ := slice_of (fun z : ByteArray => [str z]) 1 (by decide) (fun _ => rfl) (fun _ => True) hs hc h hb hw (fun m _ cs y hy _ => by
    obtain ⟨z, rfl, _, _⟩ := DataW.trod_string hn hy
    exact ⟨z, ⟨_, _, rfl, rfl, rfl⟩, trivial⟩)
  rw [cat_one] at h1
  exact ⟨v, us, l, e, h1, h2⟩

/-- A struct of four fields, the last of any width. -/
theorem struct4 {t : TypeId} {f0 f1 f2 f3 : Field} (hv : P.underlying t = some (.struct #[f0, f1, f2, f3])) (o0 : f0.offset = 0) (o1 : f1.offset = 1) (o2 : f2.offset = 2) (o3 : f3.offset = 3)
    (c0 : P.cellsOf f0.type = 1) (c1 : P.cellsOf f1.type = 1) (c2 : P.cellsOf f2.type = 1) {k : Nat} (c3 : P.cellsOf f3.type = k) (ct : P.cellsOf t = 3 + k) {fuel : Nat} {cs : List Value} {x : DataW H × List MemPlace}
    (h : DataW.trod enc P w base spare held fuel t cs = some x) (hw : Lig P t x.1) : ∃ (v0 v1 v2 : Value) (r : List Value) (m : Nat) (y0 y1 y2 y3 : DataW H × List MemPlace), m < fuel ∧ cs = v0 :: v1 :: v2 :: r ∧
      DataW.trod enc P w base spare held m f0.type [v0] = some y0 ∧ DataW.trod enc P w base spare held m f1.type [v1] = some y1 ∧ DataW.trod enc P w base spare held m f2.type [v2] = some y2 ∧ DataW.trod enc P w base spare held m f3.type r = some y3 ∧ Lig P f1.type y1.1 ∧ Lig P f2.type y2.1 ∧ Lig P f3.type y3.1 := by
  obtain ⟨xs, n, rfl, rfl, hlen, hxl, hf⟩ := DataW.trod_struct hv h
  rw [ct] at hlen
  match cs, hlen with
  | v0 :: v1 :: v2 :: r, hlen =>
    have hx : xs.length = 4 := by simpa using hxl
    have hr : r.length = k := by simp at hlen; omega
    have hw1 : ∀ n ∈ DataW.weights P t (.agg (xs.map (·.1))), n ≤ 140737488355328 := hw
    unfold DataW.weights at hw1
    rw [hv] at hw1
    have h0 := hf 0 f0 rfl
    have h1 := hf 1 f1 rfl
    have h2 := hf 2 f2 rfl
    have h3 := hf 3 f3 rfl
    rw [o0, c0, List.getElem?_eq_getElem (by omega)] at h0
    rw [o1, c1, List.getElem?_eq_getElem (by omega)] at h1
    rw [o2, c2, List.getElem?_eq_getElem (by omega)] at h2
    rw [o3, c3, List.getElem?_eq_getElem (by omega)] at h3
    simp only [List.drop_zero, List.take_succ_cons, List.take_zero, List.drop_succ_cons] at h0 h1 h2 h3
    rw [List.take_of_length_le (by omega)] at h3
    refine ⟨v0, v1, v2, r, n, _, _, _, _, Nat.lt_succ_self n, rfl, h0, h1, h2, h3, ?_⟩
    match xs, hx with
    | [a0, a1, a2, a3], _ =>
      simp only [List.map_cons, List.map_nil, DataW.weightsEach, List.append_nil] at hw1
      exact ⟨fun n hn => hw1 n (List.mem_append_right _ (List.mem_append_left _ hn)), fun n hn => hw1 n (List.mem_append_right _ (List.mem_append_right _ (List.mem_append_left _ hn))),
        fun n hn => hw1 n (List.mem_append_right _ (List.mem_append_right _ (List.mem_append_right _ hn)))⟩
  | [], hlen => simp at hlen; omega
  | [_], hlen => simp at hlen; omega
  | [_, _], hlen => simp at hlen; omega

/-- The types of api.Type. -/
structure TypTypes (P : Program) (tt tn tx tns tts : TypeId) : Prop where
  hn : P.underlying tn = some (.int .i64)
  hx : P.underlying tx = some .string
  hns : P.underlying tns = some (.slice tx)
  hts : P.underlying tts = some (.slice tt)
  ht : ∃ f0 f1 f2 f3 : Field, P.underlying tt = some (.struct #[f0, f1, f2, f3]) ∧ f0.type = tn ∧ f1.type = tns ∧ f2.type = tts ∧ f3.type = tn ∧ f0.offset = 0 ∧ f1.offset = 1 ∧ f2.offset = 2 ∧ f3.offset = 3
  cn : P.cellsOf tn = 1
  cx : P.cellsOf tx = 1
  cns : P.cellsOf tns = 1
  cts : P.cellsOf tts = 1
  ct : P.cellsOf tt = 4
  bx : 0 < P.bytesOf tx
  bt : 0 < P.bytesOf tt

theorem tfits_of : ∀ {l : List Tt}, (∀ v ∈ l, v.fits) → tfits l
  | [], _ => trivial
  | v :: r, h => ⟨h v (by simp), tfits_of fun u hu => h u (by simp [hu])⟩

theorem typ_of {tt tn tx tns tts : TypeId} (T : TypTypes P tt tn tx tns tts) : ∀ (fuel : Nat) (cs : List Value) (x : DataW H × List MemPlace), DataW.trod enc P w base spare held fuel tt cs = some x → Lig P tt x.1 →
    ∃ a : Tt, VpL w (fun k => k < w.heap.size) a.cells cs ∧ a.fits := by
  intro fuel
  induction fuel using Nat.strongRecOn with
  | _ fuel ih =>
    intro cs x h hw
    obtain ⟨f0, f1, f2, f3, hv, e0, e1, e2, e3, o0, o1, o2, o3⟩ := T.ht
    obtain ⟨v0, v1, v2, r, m, y0, y1, y2, y3, hm, rfl, h0, h1, h2, h3, w1, w2, _⟩ := struct4 (k := 1) hv o0 o1 o2 o3 (by rw [e0]; exact T.cn) (by rw [e1]; exact T.cns) (by rw [e2]; exact T.cts) (by rw [e3]; exact T.cn) T.ct h hw
    rw [e0] at h0; rw [e1] at h1 w1; rw [e2] at h2 w2; rw [e3] at h3
    obtain ⟨K, eK, _⟩ := DataW.trod_int T.hn h0
    obtain rfl := (List.cons.inj eK).1
    obtain ⟨R, rfl, _⟩ := DataW.trod_int T.hn h3
    obtain ⟨u1, us, nm, eu, hnm, hnl⟩ := strs_fit T.hx T.hns T.cx h1 T.bx w1
    obtain rfl := (List.cons.inj eu).1
    obtain ⟨u2, ul, l, eu, hl, hll, hfit⟩ := slice_of Tt.cells 4 (by decide) tcell_len Tt.fits T.hts T.ct h2 T.bt w2 (fun m' hm' cs y hy hl => ih m' (by omega) cs y hy hl)
    obtain rfl := (List.cons.inj eu).1
    rw [← tcells_cat] at hl
    refine ⟨.mk K us nm ul l R, ⟨_, _, rfl, rfl, _, _, rfl, hnm, _, _, rfl, hl, _, _, rfl, rfl, rfl⟩, ?_⟩
    exact ⟨hnl, hll, tfits_of hfit⟩
end Go.Pvm
