/-
  A part of the proof: Pv8.
-/
import Derived.Test.YtmjnfdjhaopeiaaGreatDoorPv7
import Derived.Lib.ConvBytes
import Derived.Laws.AppendOwn
import Derived.IntWalk
import Derived.Laws.BytesString
/-
  PVM, part 8: make, append, copy.
-/
namespace Go.Pvm
open Go

/-- A box's content turns without a write. -/
theorem Step.rebox {E : Env} (h : Inv E) {b : Nat} {bx bx' : Box} (hb : E.S.get b = some bx) (hver : bx.ver ≤ bx'.ver) (he : bx'.esz = bx.esz)
    (h1 : ∀ k, E.sg b = some k → Holds E k bx'.cs (E.z b)) (h2 : E.sg b = none → bx'.cs = []) :
    Step E { E with S := E.S.put b bx' } := by
  have hg : ∀ x y, (E.S.put b bx').get x = some y → ∃ y', E.S.get x = some y' := by
    intro x y hxy
    rw [Store.get_put] at hxy
    by_cases e : b = x
    · subst e; exact ⟨bx, hb⟩
    · rw [if_neg e] at hxy; exact ⟨y, hxy⟩
  have hmod : ∀ j, Mod { E with S := E.S.put b bx' } j → Mod E j := by
    intro j hm
    rcases hm with ⟨c, cx, hc, hj⟩ | ⟨d, cs, hd, rfl⟩
    · obtain ⟨y, hy⟩ := hg c cx hc; exact .inl ⟨c, y, hy, hj⟩
    · exact .inr ⟨d, cs, hd, rfl⟩
  have hext : Ext E { E with S := E.S.put b bx' } := by
    refine ⟨rfl, rfl, rfl, Nat.le_refl _, fun j _ hm => rfl, fun _ h => h, fun j hj => .inl hj, fun j hm => .inr (hmod j hm), Nat.le_refl _, fun c cx hc hx => ?_⟩
    simp only [Store.get_put] at hx
    by_cases e : b = c
    · subst e; simp at hx; subst hx
      exact ⟨bx, hb, fun _ => ⟨rfl, he, rfl⟩, hver⟩
    · rw [if_neg e] at hx
      exact ⟨cx, hx, fun _ => ⟨rfl, rfl, rfl⟩, Nat.le_refl _⟩
  have hle := hext.le h
  refine ⟨hext, ⟨fun j hj => ⟨(h.gam j hj).1, fun hm => (h.gam j hj).2 (hmod j hm)⟩, fun c cx hc => ?_, fun c c' cx cx' j hc hc' hj hj' => ?_, fun d cs hd => (h.loc d cs hd).mono hle rfl, h.linj, fun c cx d cs hc hd => ?_⟩, fun _ cs h => ⟨⟨cs, h⟩, rfl⟩⟩
  · simp only [Store.get_put] at hc
    by_cases e : b = c
    · subst e; simp at hc; subst hc
      obtain ⟨g1, g2, g3, g4⟩ := h.box b bx hb
      exact ⟨g1, by rw [he]; exact g2, fun j hj => (h1 j hj).mono hle rfl, fun hn => ⟨h2 hn, (g4 hn).2⟩⟩
    · rw [if_neg e] at hc
      obtain ⟨g1, g2, g3, g4⟩ := h.box c cx hc
      exact ⟨g1, g2, fun j hj => (g3 j hj).mono hle rfl, g4⟩
  · obtain ⟨y, hy⟩ := hg c cx hc
    obtain ⟨y', hy'⟩ := hg c' cx' hc'
    exact h.inj c c' y y' j hy hy' hj hj'
  · obtain ⟨y, hy⟩ := hg c cx hc
    exact h.apart c y d cs hy hd

section
variable {P : Program}

/-- Cells are read, in whatever world has this heap. -/
theorem loads_of {E : Env} {k o : Nat} {cs : List PV} (h : ∀ (i : Nat) (p : PV), cs[i]? = some p → ∃ u, E.w.cell? ⟨k, o + i, none⟩ = some u ∧ W E p u) (w : World) (hw : w.heap = E.w.heap) :
    ∃ vs, (loadCells ⟨k, o, none⟩ cs.length).run P w = .ok vs w ∧ WL E cs vs.toList := by
  have hat : At E cs 0 (.pointer (some ⟨k, o, none⟩)) := ⟨k, o, rfl, h⟩
  have hex : ∀ j, j < cs.length → ∃ u, w.cell? ⟨k, o + j, none⟩ = some u ∧ ∀ p, cs[j]? = some p → W E p u := by
    intro j hj
    obtain ⟨u, h1, h2⟩ := h j cs[j] (by simp [hj])
    refine ⟨u, ?_, fun p hp => by simp [hj] at hp; subst hp; exact h2⟩
    simp only [World.cell?, hw] at h1 ⊢; exact h1
  let g : Nat → Value := fun j => if hj : j < cs.length then Classical.choose (hex j hj) else undef
  have hg : ∀ j (hj : j < cs.length), w.cell? ⟨k, o + j, none⟩ = some (g j) ∧ ∀ p, cs[j]? = some p → W E p (g j) := by
    intro j hj
    simp only [g, dif_pos hj]
    exact Classical.choose_spec (hex j hj)
  refine ⟨((List.range cs.length).map g).toArray, run_loadCells w _ cs.length g (fun j hj => ?_), ?_⟩
  · rw [addr_eq]; exact (hg j hj).1
  · refine WL_iff.2 ⟨by simp, fun i p v hp hv => ?_⟩
    have hin : i < cs.length := by
      rcases Nat.lt_or_ge i cs.length with h | h
      · exact h
      · simp [h] at hv
    simp [hin] at hv
    subst hv
    exact (hg i hin).2 p hp

theorem src_sound {E : Env} {T : LS} (hS : E.S = T.S) (hI : Inv E) {sz m : Nat} {x : PV} {ps : List PV} {xv : Value} (h : srcO T sz x = some (ps, m)) (hv : W E x xv) :
    (∀ w, (Builtin.lenOf xv).run P w = .ok m w) ∧ ps.length = m * sz ∧
    ∀ k, k ≤ m → ∀ w : World, w.heap = E.w.heap → ∃ news, (Builtin.firstCells sz k xv).run P w = .ok news w ∧ WL E (ps.take (k * sz)) news.toList := by
  have empty : ∀ (A : Option Addr) (k n c : Nat) (w : World), k * sz = 0 → (Builtin.firstCells sz k (.slice A n c)).run P w = .ok #[] w := by
    intro A k n c w h0
    cases A <;> simp [Builtin.firstCells, h0, loadCells, loadCellsFrom]
  unfold srcO at h
  split at h
  · rename_i full n cs
    split at h
    · rename_i hlen
      obtain ⟨rfl, rfl⟩ := Prod.mk.inj (Option.some.inj h)
      obtain ⟨A, c, rfl, hnc, _, hcs⟩ := hv
      refine ⟨fun w => rfl, hlen, fun q hq w hw => ?_⟩
      have hle : q * sz ≤ cs.length := by rw [hlen]; exact Nat.mul_le_mul_right _ hq
      rcases hcs with rfl | ⟨k, o, rfl, hg, hc⟩
      · have h0 : q * sz = 0 := by simpa using hle
        exact ⟨#[], empty A q _ c w h0, by rw [h0]; rfl⟩
      · obtain ⟨vs, h1, h2⟩ := loads_of (P := P) (cs := cs.take (q * sz)) (k := k) (o := o) (fun i p hp => by
          have hp' : cs[i]? = some p := by
            rcases Nat.lt_or_ge i (q * sz) with hi | hi
            · rwa [List.getElem?_take_of_lt hi] at hp
            · simp [List.getElem?_take, Nat.not_lt.2 hi] at hp
          obtain ⟨u, g1, g2⟩ := VpC_iff.1 hc i p hp'
          exact ⟨u, g1, W_of_Vp p u g2⟩) w hw
        have hl : (cs.take (q * sz)).length = q * sz := by rw [List.length_take]; omega
        exact ⟨vs, by rw [hl] at h1; exact h1, h2⟩
    · cases h
  · rename_i b ver off n
    split at h
    · rename_i bx hb
      split at h
      · rename_i hc
        obtain ⟨hver, hle⟩ := hc
        obtain ⟨rfl, rfl⟩ := Prod.mk.inj (Option.some.inj h)
        have hb' : E.S.get b = some bx := by rw [hS]; exact hb
        obtain ⟨g1, g3⟩ := hv
        obtain ⟨g4, g5⟩ := g3 bx hb'
        obtain ⟨A, c, rfl, hnc, hz, hA⟩ := g5 hver
        obtain ⟨_, _, i3, i4⟩ := hI.box b bx hb'
        have hlen : ((bx.cs.drop off).take (n * sz)).length = n * sz := by simp; omega
        refine ⟨fun w => rfl, hlen, fun q hq w hw => ?_⟩
        have hle2 : q * sz ≤ n * sz := Nat.mul_le_mul_right _ hq
        cases hk : E.sg b with
        | none =>
          have h0 := (i4 hk).1
          have hn0 : q * sz = 0 := by rw [h0] at hle; simp at hle; omega
          exact ⟨#[], empty A q n c w hn0, by rw [hn0]; simp [WL]⟩
        | some k =>
          obtain rfl := hA k hk
          obtain ⟨vs, h1, h2⟩ := loads_of (P := P) (cs := ((bx.cs.drop off).take (n * sz)).take (q * sz)) (k := k) (o := off) (fun i p hp => by
            rw [List.take_take, Nat.min_eq_left hle2] at hp
            rcases Nat.lt_or_ge i (q * sz) with hi | hi
            · rw [List.getElem?_take_of_lt hi, List.getElem?_drop] at hp
              exact (i3 k hk).cell hp
            · simp [List.getElem?_take, Nat.not_lt.2 hi] at hp) w hw
          have hl : (((bx.cs.drop off).take (n * sz)).take (q * sz)).length = q * sz := by rw [List.length_take]; omega
          exact ⟨vs, by rw [hl] at h1; exact h1, h2⟩
      · cases h
    · cases h
  · rename_i s
    split at h
    · rename_i hs1
      obtain ⟨rfl, rfl⟩ := Prod.mk.inj (Option.some.inj h)
      obtain rfl : xv = _ := hv
      subst hs1
      refine ⟨fun w => rfl, by rw [List.length_map, Nat.mul_one, Array.length_toList]; rfl, fun q hq w hw => ⟨(s.extract 0 q).data.map fun b => .int .u8 b.toNat, rfl, ?_⟩⟩
      have hd : (s.extract 0 q).data.toList = s.data.toList.take q := by simp
      refine WL_iff.2 ⟨?_, fun i p v hp hv => ?_⟩
      · rw [Array.toList_map, hd]; simp
      · rw [Array.toList_map, hd] at hv
        rw [Nat.mul_one, ← List.map_take] at hp
        simp only [List.getElem?_map] at hp hv
        cases hq2 : (s.data.toList.take q)[i]? with
        | none => rw [hq2] at hp; cases hp
        | some b => rw [hq2] at hp hv; simp at hp hv; subst hp hv; rfl
    · cases h
  · cases h

theorem wrap_small {n : Int} (h0 : 0 ≤ n) (h1 : n ≤ 140737488355328) : IntKind.i64.wrap n = n :=
  IntWalk.i64_in _ ⟨by omega, by omega⟩

theorem rep_take {α : Type} (l : List α) : ∀ (n c : Nat), n ≤ c → (rep c l).take (n * l.length) = rep n l
  | 0, c, _ => by simp [rep]
  | n + 1, 0, h => by omega
  | n + 1, c + 1, h => by
    have := rep_take l n c (by omega)
    simp only [rep]
    rw [Nat.succ_mul, List.take_append, List.take_of_length_le (by omega), Nat.add_sub_cancel, this]

theorem make_sound {E : Env} {T T' : LS} (hS : E.S = T.S) (hL : E.L = T.L) (hI : Inv E) {t : TypeId} {n c x : PV} {nv cv : Value} (h : makeSliceO P T t n c = some (x, T'))
    (hn : W E n nv) (hc : W E c cv) :
    ∃ v E', (Instr.makeSlice t nv cv).run P E.w = .ok v E'.w ∧ Step E E' ∧ E'.S = T'.S ∧ E'.L = T'.L ∧ W E' x v := by
  unfold makeSliceO at h
  split at h
  · rename_i e k1 n k2 c hu
    obtain rfl : nv = _ := hn
    obtain rfl : cv = _ := hc
    split at h
    · rename_i i z hi hz
      obtain ⟨i', zv, hi', hzv, rfl⟩ := zeros_some hz
      rw [hi] at hi'
      obtain rfl := Option.some.inj hi'
      split at h
      · rename_i hcond
        obtain ⟨c1, c2, c3, c4, c5, c6⟩ := hcond
        obtain ⟨rfl, rfl⟩ := Prod.mk.inj (Option.some.inj h)
        have hzs : zv.cells.size = i.size := by simpa using c5
        have hwn := wrap_small c1 (by omega)
        have hwc := wrap_small (n := c) (by omega) c4
        obtain ⟨cn, rfl⟩ := Int.eq_ofNat_of_zero_le (show 0 ≤ c by omega)
        obtain ⟨nn, rfl⟩ := Int.eq_ofNat_of_zero_le c1
        let arr : Array Value := (rep cn zv.cells.toList).toArray
        have harr : arr.size = cn * i.size := by simp [arr, rep_length, hzs]
        have hle : nn * i.size ≤ cn * i.size := Nat.mul_le_mul_right _ (by omega)
        have hst := Step.box hI arr e ⟨0, i.size, rep nn (zv.cells.toList.map ofCell)⟩ c6 (by simp [rep_length, harr, hzs]; exact hle) (by
          have h1 := WL_ofCells E (rep nn zv.cells.toList)
          rw [rep_map] at h1
          have h2 : (rep nn (zv.cells.toList.map ofCell)).length = nn * zv.cells.toList.length := by simp [rep_length]
          have h3 : arr.toList.take (nn * zv.cells.toList.length) = rep nn zv.cells.toList := by
            simpa [arr] using rep_take zv.cells.toList nn cn (by omega)
          simp only [h2]
          rw [h3]; exact h1)
        refine ⟨.slice (some ⟨E.w.heap.size, 0, none⟩) nn cn, _, ?_, hst, by show E.S.add _ = T.S.add _; rw [hS]; simp, hL, ?_⟩
        · have hb : (i.bytes : Int) * (cn : Int) ≤ 140737488355328 := by rw [Int.mul_comm]; exact c3
          have e1 : ¬ ((cn : Int) < 0) := by omega
          have e2 : ¬ (281474976710656 < (i.bytes : Int) * (cn : Int)) := by omega
          have e3 : ¬ ((cn : Int) < (nn : Int)) := by omega
          have e4 : ¬ ((nn : Int) < 0) := by omega
          by_cases e0 : cn * i.size = 0
          · have hr : ∀ f : Nat → Value, (Array.range (cn * i.size)).map f = #[] := by intro f; apply Array.ext'; rw [e0]; simp
            have ha : arr = #[] := by apply Array.eq_empty_of_size_eq_zero; omega
            simp [Instr.makeSlice, run_underlying hu, asInt, asIntOf, typeInfo, hi, hwn, hwc, e1, e2, e3, e4, sizeOf, newRow, ha, hr]
            exact fun q => absurd e0 q
          · have hz2 : ((Array.range (cn * i.size)).map (zv.cells[· % zv.cells.size]!)) = arr := by
              apply Array.ext'
              rw [← hzs, zero_cells _ _ (by omega)]
            simp [Instr.makeSlice, run_underlying hu, asInt, asIntOf, typeInfo, zeroValue, hzv, hi, hwn, hwc, e1, e2, e3, e4, sizeOf, newRow, e0, hz2]
        · have hbn : T.S.next = E.S.next := by rw [hS]
          rw [hbn]
          refine ⟨⟨Nat.lt_succ_self _, _, _, rfl⟩, fun bx hb => ?_⟩
          have hb' : (E.S.add ⟨0, i.size, rep nn (zv.cells.toList.map ofCell)⟩).get E.S.next = some bx := hb
          rw [Store.get_add, if_pos rfl] at hb'
          obtain rfl := Option.some.inj hb'
          refine ⟨Nat.le_refl _, fun _ => ⟨_, _, rfl, by omega, ?_, fun k hk => ?_⟩⟩
          · show 0 + cn * i.size ≤ upd E.z E.S.next arr.size E.S.next
            simp [upd, harr]
          · have hk' : upd E.sg E.S.next (some E.w.heap.size) E.S.next = some k := hk
            simp [upd] at hk'
            rw [hk']
      · cases h
    · cases h
  · cases h

/-- An append that grows: the model's own run. -/
theorem append_grows {t u ty e : TypeId} {i : TypeInfo} {z s x : Value} {A : Option Addr} {n m c : Nat} {w : World} {olds news : Array Value} {du : TypeDesc}
    (ht : P.underlying t = some (.slice e)) (hu : P.underlying u = some du) (hdu : (∃ e2, du = .slice e2) ∨ du = .string) (hi : P.info? e = some i) (hz : i.zero = some z)
    (hs : s = .slice A n c) (hlx : ∀ w, (Builtin.lenOf x).run P w = .ok m w)
    (ho : (Builtin.firstCells i.size n s).run P w.drew = .ok olds w.drew) (hn : (Builtin.firstCells i.size m x).run P w.drew = .ok news w.drew)
    (hg : c < n + m) (hb : (n + m) * i.bytes ≤ 140737488355328) (hl : n + m ≤ 140737488355328) (rest : List TypeId) :
    ∃ cap, n + m ≤ cap ∧ (Builtin.append_ (t :: u :: rest).toArray ty #[s, x]).run P w = .ok (.slice (some ⟨w.heap.size, 0, none⟩) (n + m) cap)
      (w.drew.alloc (.cells (olds ++ news ++ Builtin.zeroCells z.cells (cap - (n + m))) e)) := by
  subst hs
  have hn' : ¬ (n + m ≤ c) := by omega
  have h63' : ¬ (9223372036854775807 < ((n : Int) + (m : Int))) := by omega
  have h48 := growslice_fits hg hb
  have h48' : ¬ (281474976710656 < Builtin.nextslicecap (n + m) c * i.bytes) := by omega
  refine ⟨grownCap w (n + m) c e, ?_, ?_⟩
  · simp only [grownCap, Question.cut]; omega
  · rcases hdu with ⟨e2, rfl⟩ | rfl <;>
      simp [Builtin.append_, run_underlying ht, run_underlying hu, sizeOf, typeInfo, zeroValue, hi, hz, hlx, hn', h63', h48', Question.forced, hn, ho, newRow, grownCap]

/-- An append that fits. -/
theorem append_fits {t u ty e : TypeId} {i : TypeInfo} {s x : Value} {A : Option Addr} {n m c : Nat} {w w' : World} {news : Array Value} {du : TypeDesc}
    (ht : P.underlying t = some (.slice e)) (hu : P.underlying u = some du) (hdu : (∃ e2, du = .slice e2) ∨ du = .string) (hi : P.info? e = some i)
    (hs : s = .slice A n c) (hlx : ∀ w, (Builtin.lenOf x).run P w = .ok m w)
    (hn : (Builtin.firstCells i.size m x).run P w = .ok news w)
    (hg : n + m ≤ c) (rest : List TypeId)
    (hst : (A = none ∧ w = w') ∨ ∃ a, A = some a ∧ (storeCells (a.add (n * i.size)) news.toList).run P w = .ok () w') :
    (Builtin.append_ (t :: u :: rest).toArray ty #[s, x]).run P w = .ok (.slice A (n + m) c) w' := by
  subst hs
  rcases hst with ⟨rfl, rfl⟩ | ⟨a, rfl, hst'⟩
  · rcases hdu with ⟨e2, rfl⟩ | rfl <;>
      simp [Builtin.append_, run_underlying ht, run_underlying hu, sizeOf, typeInfo, hi, hlx, hg, hn]
  · rcases hdu with ⟨e2, rfl⟩ | rfl <;>
      simp [Builtin.append_, run_underlying ht, run_underlying hu, sizeOf, typeInfo, hi, hlx, hg, hn, hst']

theorem mapM_byte : ∀ (cs : List PV) (ns : List Int), cs.mapM byteO = some ns → ∀ {E : Env} (vs : List Value), WL E cs vs → vs = ns.map (Value.int .u8)
  | [], ns, h, E, vs, hv => by
    simp only [List.mapM_nil, Option.pure_def] at h
    obtain rfl := Option.some.inj h
    exact hv
  | c :: cs, ns, h, E, vs, hv => by
    simp only [List.mapM_cons, Option.bind_eq_bind, Option.bind_eq_some_iff, Option.pure_def] at h
    obtain ⟨n, h1, ns', h2, h3⟩ := h
    obtain rfl := Option.some.inj h3
    obtain ⟨v, r, rfl, hw, hr⟩ := hv
    rw [mapM_byte cs ns' h2 r hr]
    unfold byteO at h1
    split at h1
    · obtain rfl := Option.some.inj h1
      obtain rfl : v = _ := hw
      rfl
    · cases h1

/-- A new block, laid by whatever means, that is never written again. -/
theorem Step.freshW {E : Env} (h : Inv E) {w' : World} (h1 : w'.os = E.w.os) (h2 : w'.tape = E.w.tape) (h3 : w'.output = E.w.output) (h4 : w'.heap.size = E.w.heap.size + 1) (h5 : ∀ k, k < E.w.heap.size → w'.heap[k]? = E.w.heap[k]?) :
    Step E { E with w := w', G := fun k => E.G k ∨ k = E.w.heap.size } := by
  have hext : Ext E { E with w := w', G := fun k => E.G k ∨ k = E.w.heap.size } :=
    ⟨h1, h2, h3, by show E.w.heap.size ≤ w'.heap.size; omega, fun k hk _ => h5 k hk, fun _ h => .inl h, fun k hk => hk.elim .inl fun e => .inr (.inl (by omega)), fun _ h => .inr h, Nat.le_refl _,
      fun _ bx' _ h => ⟨bx', h, fun _ => ⟨rfl, rfl, rfl⟩, Nat.le_refl _⟩⟩
  have hle := hext.le h
  refine ⟨hext, ⟨fun k hk => ?_, fun b bx hb => ?_, h.inj, fun d cs hd => ?_, h.linj, h.apart⟩, fun _ cs h => ⟨⟨cs, h⟩, rfl⟩⟩
  · rcases hk with hk | hk
    · obtain ⟨h1, h2⟩ := h.gam k hk
      exact ⟨by show k < w'.heap.size; omega, h2⟩
    · subst hk
      exact ⟨by show E.w.heap.size < w'.heap.size; omega, fun hm => by have := Mod.lt h hm; omega⟩
  · obtain ⟨h1, h2, h3, h4⟩ := h.box b bx hb
    exact ⟨h1, h2, fun k hk => (h3 k hk).mono hle (h5 _ (h3 k hk).lt), h4⟩
  · exact (h.loc d cs hd).mono hle (h5 _ (h.loc d cs hd).lt)

theorem conv_sound {E : Env} {T : LS} (hS : E.S = T.S) (hI : Inv E) {src dst : TypeId} {x r : PV} {a : Value} (h : convO P T src dst x = some r) (hx : W E x a) :
    ∃ v E', (convert src dst a).run P E.w = .ok v E'.w ∧ Step E E' ∧ E'.S = E.S ∧ E'.L = E.L ∧ W E' r v := by
  unfold convO at h
  split at h
  · rename_i e hs hd
    split at h
    · cases h
    rename_i hns
    split at h
    · rename_i cs n he hsrc
      obtain ⟨ns, h1, rfl⟩ := Option.map_eq_some_iff.1 h
      obtain ⟨x1, x2, x3⟩ := src_sound (P := P) hS hI hsrc hx
      obtain ⟨news, n1, n2⟩ := x3 n (Nat.le_refl _) E.w rfl
      rw [List.take_of_length_le (by omega)] at n2
      have hnews := mapM_byte cs ns h1 _ n2
      have hshape : ∃ A c, a = .slice A n c := by
        cases x with
        | sl u m ds =>
          simp only [srcO] at hsrc
          split at hsrc
          · obtain ⟨rfl, rfl⟩ := Prod.mk.inj (Option.some.inj hsrc)
            obtain ⟨A, c, rfl, _⟩ := hx; exact ⟨A, c, rfl⟩
          · cases hsrc
        | bsl b ver off m =>
          simp only [srcO] at hsrc
          split at hsrc
          · split at hsrc
            · obtain ⟨rfl, rfl⟩ := Prod.mk.inj (Option.some.inj hsrc)
              obtain ⟨⟨_, A, c, rfl⟩, _⟩ := hx; exact ⟨A, c, rfl⟩
            · cases hsrc
          · cases hsrc
        | s v => exact absurd rfl hns
        | _ => simp [srcO] at hsrc
      obtain ⟨A, c, rfl⟩ := hshape
      refine ⟨.string (pushBytes ns), E, ?_, Step.refl hI, rfl, rfl, rfl⟩
      rw [run_convert_bytes_string E.w src dst e A n c hs he hd]
      cases A with
      | none =>
        have h0 : news = #[] := by
          have e1 : (Builtin.firstCells 1 n (.slice none n c)).run P E.w = .ok #[] E.w := by simp [Builtin.firstCells]
          rw [e1] at n1
          simp only [Result.ok.injEq, and_true] at n1
          exact n1.symm
        rw [h0] at hnews
        have : ns = [] := by cases ns with | nil => rfl | cons a b => simp at hnews
        subst this
        simp [Conv.bytesToString, pushBytes]
      | some ad =>
        refine run_bytesToString E.w ad n c ns ?_
        have e1 : (Builtin.firstCells 1 n (.slice (some ad) n c)).run P E.w = (loadCells ad n).run P E.w := by simp [Builtin.firstCells]
        rw [e1] at n1
        rw [n1]
        congr 1
        apply Array.ext'
        rw [hnews]
    · cases h
  · rename_i ds d hne hs hd
    split at h
    · rename_i k0 n k
      obtain rfl : a = _ := hx
      obtain rfl := Option.some.inj h
      refine ⟨_, E, ?_, Step.refl hI, rfl, rfl, rfl⟩
      cases ds <;> simp [convert, run_underlying hs, run_underlying hd, Conv.intToInt]
    · rename_i s
      obtain rfl : a = _ := hx
      obtain rfl := Option.some.inj h
      refine ⟨.string s, E, ?_, Step.refl hI, rfl, rfl, rfl⟩
      cases ds <;> first | exact (hne _ rfl rfl).elim | simp [convert, run_underlying hs, run_underlying hd]
    · rename_i s e
      split at h
      · rename_i he
        obtain rfl : a = _ := hx
        obtain rfl := Option.some.inj h
        refine ⟨_, { E with w := Lib.bytesWorld E.w e s, G := fun k => E.G k ∨ k = E.w.heap.size }, Lib.run_convert_string_bytes E.w src dst e s hs hd he, Step.freshW hI rfl rfl rfl (Lib.bytesWorld_size _ _ _) (fun k hk => Lib.bytesWorld_at_old _ _ _ k hk), rfl, rfl, ?_⟩
        refine ⟨some ⟨E.w.heap.size, 0, none⟩, _, rfl, ?_, fun h => (by cases h), .inr ⟨_, _, rfl, .inr rfl, ?_⟩⟩
        · simp only [grownCap, Question.cut]; omega
        · refine VpC_iff.2 fun i p hp => ?_
          rw [List.getElem?_map] at hp
          obtain ⟨b, hb, rfl⟩ := Option.map_eq_some_iff.1 hp
          have hi := (List.getElem?_eq_some_iff.1 hb).1
          refine ⟨_, Lib.bytesWorld_cell E.w e s (0 + i) (by simp at hi; omega), ?_⟩
          show _ = _
          rw [Nat.zero_add, List.getD_eq_getElem?_getD, hb]; rfl
      · cases h
    · cases h
  · cases h
end
end Go.Pvm
