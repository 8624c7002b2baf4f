/-
  A part of the proof: Pv5.
-/
import Derived.Test.YtmjnfdjhaopeiaaGreatDoorPv4
import Derived.Laws.Small
/-
  PVM, part 5: the operations.
-/
namespace Go.Pvm
open Go

/-- From one state to the next; a local that is laid anew. -/
structure Moves (sc : Option Nat) (E E' : Env) : Prop where
  ext : Ext E E'
  inv : Inv E'
  v : ∀ p v, V E p v → (∀ d off, sc = some d → p ≠ .loc d off) → V E' p v

theorem Step.moves {E E' : Env} (hi : Inv E) (h : Step E E') : Moves none E E' := ⟨h.ext, h.inv, fun _ _ hv _ => V.mono hi h hv⟩

theorem store_sound {E : Env} {T T' : LS} (hS : E.S = T.S) (hL : E.L = T.L) (hi : Inv E) {P : Program} {t : TypeId} {r : RV} {x : PV} {av xv : Value}
    (h : storeO P T t r x = some T') (hv : V E r av) (hx : W E x xv) :
    ∃ E', (Instr.storeAt t av xv).run P E.w = .ok () E'.w ∧ Step E E' ∧ E'.S = T'.S ∧ E'.L = T'.L := by
  unfold storeO at h
  split at h
  · rename_i ps n hps hn
    obtain ⟨c1, c2, c3⟩ := cells_sound hps hx
    have c2' : ps.length = xv.cells.toList.length := by simpa using c2
    split at h
    · rename_i hpn
      have hrun : ∀ a, (storeVar t a xv).run P E.w = (storeCells a xv.cells.toList).run P E.w := by
        intro a
        simp [storeVar, run_size hn, ← c2, hpn]
      split at h
      · rename_i d off
        cases hd : look T.L d with
        | none => simp [hd] at h
        | some cs =>
          simp only [hd] at h
          split at h
          · rename_i hle
            obtain rfl := Option.some.inj h
            obtain ⟨cs2, g1, rfl⟩ := hv
            rw [hL, hd] at g1
            obtain rfl := Option.some.inj g1
            have hd' : look E.L d = some cs := by rw [hL]; exact hd
            obtain ⟨arr, Ty, h1, h2, h3, h4⟩ := (hi.loc d cs hd').ex
            have hst := run_stores (P := P) h1 (off := off) (vs := xv.cells.toList) (by omega) c3
            refine ⟨{ E with w := wput E.w (E.l d) (.cells (laid arr off xv.cells.toList) Ty (0, 0)), L := put E.L d (splice cs off ps) }, ?_, ?_, hS, by show put E.L d _ = put T.L d _; rw [hL]⟩
            · simp only [Instr.storeAt, Instr.sureAddr, Sem.run_bind, Sem.run_pure, Result.andThen_ok, hrun]
              exact hst
            · refine Step.writeLoc hi hd' (by rw [laid_size (by omega)]; exact h2) (splice_length (by omega)) ?_
              have := WL_laid h4 c1 (off := off) (by omega)
              rwa [List.take_of_length_le (by rw [splice_length (by omega)]; simp [laid_size (arr := arr) (off := off) (vs := xv.cells.toList) (by omega)]; omega)] at this
          · cases h
      · rename_i b ver off
        cases hb : T.S.get b with
        | none => simp [hb] at h
        | some bx =>
          simp only [hb] at h
          split at h
          · rename_i hc
            obtain ⟨hver, hle⟩ := hc
            obtain rfl := Option.some.inj h
            have hb' : E.S.get b = some bx := by rw [hS]; exact hb
            obtain ⟨_, hv2⟩ := hv
            obtain ⟨_, hv3⟩ := hv2 bx hb'
            obtain ⟨k, hk, rfl⟩ := hv3 hver
            obtain ⟨b1, b2, b3, _⟩ := hi.box b bx hb'
            obtain ⟨arr, Ty, h1, h2, h3, h4⟩ := (b3 k hk).ex
            have hst := run_stores (P := P) h1 (off := off) (vs := xv.cells.toList) (by omega) c3
            refine ⟨{ E with w := wput E.w k (.cells (laid arr off xv.cells.toList) Ty (0, 0)), S := E.S.put b { bx with cs := splice bx.cs off ps } }, ?_, ?_, by show E.S.put b _ = T.S.put b _; rw [hS], hL⟩
            · simp only [Instr.storeAt, Instr.sureAddr, Sem.run_bind, Sem.run_pure, Result.andThen_ok, hrun]
              exact hst
            · refine Step.write hi hb' hk (by rw [laid_size (by omega)]; exact h2) (by rw [laid_size (by omega), splice_length (by omega)]; omega) (Nat.le_refl _) rfl ?_
              exact WL_laid h4 c1 (by omega)
          · cases h
      · cases h
    · cases h
  · cases h

/-- A variable is laid. -/
theorem new_sound {C : Cfg} {f : Nat} {E : Env} {T T' : LS} (hS : E.S = T.S) (hL : E.L = T.L) (hi : Inv E) {dst : Option Nat} {cs : List PV} {r : RV} {sc : Option Nat}
    (h : newO C f T dst cs = some (r, T', sc)) (arr : Array Value) (ty : TypeId) (hl : cs.length = arr.size) (hv : WL E cs arr.toList) :
    ∃ E', E'.w = E.w.alloc (.cells arr ty) ∧ Moves sc E E' ∧ E'.S = T'.S ∧ E'.L = T'.L ∧ V E' r (.pointer (some ⟨E.w.heap.size, 0, none⟩)) := by
  unfold newO at h
  split at h
  · rename_i d
    split at h
    · obtain ⟨rfl, h2⟩ := Prod.mk.inj (Option.some.inj h)
      obtain ⟨rfl, rfl⟩ := Prod.mk.inj h2
      obtain ⟨h1, h2, h3, h4, h5⟩ := Ext.newLoc hi d cs arr ty hl.symm hv
      refine ⟨_, rfl, ⟨h1, h2, fun p v hv hp => h5 p v hv (fun off => hp d off rfl)⟩, hS, by show put E.L d cs = put T.L d cs; rw [hL], ?_⟩
      exact ⟨cs, h3, by rw [h4]⟩
    · obtain ⟨rfl, h2⟩ := Prod.mk.inj (Option.some.inj h)
      obtain ⟨rfl, rfl⟩ := Prod.mk.inj h2
      have hst := Step.box hi arr ty ⟨0, 1, cs⟩ Nat.one_pos (by simp [hl]) (by simpa [List.take_of_length_le, hl] using hv)
      refine ⟨_, rfl, hst.moves hi, by show E.S.add _ = T.S.add _; rw [hS], hL, ?_⟩
      refine ⟨⟨by show T.S.next < E.S.next + 1; rw [hS]; exact Nat.lt_succ_self _, rfl⟩, fun bx hb => ?_⟩
      have hb' : (E.S.add ⟨0, 1, cs⟩).get T.S.next = some bx := hb
      rw [Store.get_add, hS, if_pos rfl] at hb'
      obtain rfl := Option.some.inj hb'
      exact ⟨Nat.le_refl _, fun _ => ⟨E.w.heap.size, by show upd E.sg E.S.next _ T.S.next = _; simp [upd, hS], rfl⟩⟩
  · cases h

/-! ### plain values -/
section
variable {P : Program}

theorem intB_run {op : BinOp} {k : IntKind} {a b : Int} {v : Value} (h : intB op k a b = some v) (h1 : op ≠ .shl) (h2 : op ≠ .shr) (t : TypeId) (w : World) :
    (binOp op t (.int k a) (.int k b)).run P w = .ok v w := by
  cases op <;> simp only [intB] at h <;> first
    | (obtain rfl := Option.some.inj h; simp [binOp, Op.intArith, Op.intBits, Op.intCmp, bits]; done)
    | (split at h
       · cases h
       · rename_i hb
         obtain rfl := Option.some.inj h
         simp [binOp, Op.intDiv, hb])
    | exact absurd rfl h1
    | exact absurd rfl h2
    | cases h

theorem strB_run {op : BinOp} {a b : ByteArray} {v : Value} (h : strB op a b = some v) (t : TypeId) (w : World) :
    (binOp op t (.string a) (.string b)).run P w = .ok v w := by
  cases op <;> simp only [strB] at h <;> first
    | (obtain rfl := Option.some.inj h; simp [binOp, Op.stringOp]; done)
    | (split at h
       · rename_i hb
         obtain rfl := Option.some.inj h
         have : ¬ (9223372036854775807 < (a.size : Int) + (b.size : Int)) := by omega
         simp [binOp, Op.stringOp, this]
       · cases h)
    | cases h

theorem binS_run {op : BinOp} {x y v : Value} (h : binS op x y = some v) (t : TypeId) (ox oy : Operand) (w : World) :
    (eqGuard op t ox oy x y).run P w = .ok () w ∧ (binOp op t x y).run P w = .ok v w := by
  unfold binS at h
  split at h
  · rename_i k a k' b
    refine ⟨by rw [eqGuard_at_int]; rfl, ?_⟩
    split at h
    · split at h
      · cases h
      · rename_i hb
        obtain rfl := Option.some.inj h
        simp [binOp, Op.shift, hb]
    · split at h
      · cases h
      · rename_i hb
        obtain rfl := Option.some.inj h
        simp [binOp, Op.shift, hb]
    · rename_i n1 n2
      split at h
      · rename_i hk
        subst hk
        exact intB_run h (fun e => n1 e) (fun e => n2 e) t w
      · cases h
  · rename_i a b
    exact ⟨by rw [eqGuard_at_string]; rfl, strB_run h t w⟩
  · cases h

theorem bin_sound {E : Env} {op : BinOp} {t : TypeId} {x y r : PV} {a b : Value} (h : binO P op t x y = some r) (hx : W E x a) (hy : W E y b) (ox oy : Operand) :
    ∃ v, ((do eqGuard op t ox oy a b; binOp op t a b) : Sem Value).run P E.w = .ok v E.w ∧ W E r v := by
  unfold binO at h
  split at h
  · rename_i p q
    obtain rfl : a = _ := hx
    obtain rfl : b = _ := hy
    split at h
    · rename_i hu
      obtain rfl := Option.some.inj h
      exact ⟨_, by rw [eqGuard_at_bool]; exact run_eql_bool E.w t _ _ hu, rfl⟩
    · rename_i hu
      obtain rfl := Option.some.inj h
      exact ⟨_, by rw [eqGuard_at_bool]; exact run_neq_bool E.w t _ _ hu, rfl⟩
    · cases h
  · obtain rfl : a = _ := hx
    obtain rfl : b = _ := hy
    obtain ⟨v, hv, rfl⟩ := Option.map_eq_some_iff.1 h
    obtain ⟨h1, h2⟩ := binS_run (P := P) hv t ox oy E.w
    exact ⟨v, by simp [h1, h2], rfl⟩
  · cases h

theorem un_sound {E : Env} {op : UnOp} {x r : PV} {a : Value} (h : unO op x = some r) (hx : W E x a) :
    ∃ v, (Op.unary op a).run P E.w = .ok v E.w ∧ W E r v := by
  unfold unO at h
  split at h
  · obtain rfl : a = _ := hx
    obtain rfl := Option.some.inj h
    exact ⟨_, by simp [Op.unary], rfl⟩
  · obtain rfl : a = _ := hx
    obtain rfl := Option.some.inj h
    exact ⟨_, by simp [Op.unary, Op.intArith], rfl⟩
  · obtain rfl : a = _ := hx
    obtain rfl := Option.some.inj h
    exact ⟨_, by simp [Op.unary, Op.intBits, bits], rfl⟩
  · cases h

end

/-! ### places -/
section
variable {P : Program}

theorem shift_sound {E : Env} {T : LS} (hS : E.S = T.S) {p q : RV} {n : Nat} {av : Value} (h : shift T p n = some q) (hv : V E p av) :
    ∃ k o, av = .pointer (some ⟨k, o, none⟩) ∧ V E q (.pointer (some ⟨k, o + n, none⟩)) := by
  unfold shift at h
  split at h
  · rename_i d off
    obtain rfl := Option.some.inj h
    obtain ⟨cs, h1, rfl⟩ := hv
    exact ⟨_, _, rfl, cs, h1, rfl⟩
  · rename_i cs off
    obtain rfl := Option.some.inj h
    obtain ⟨k, o, rfl, hg, hc⟩ := hv
    exact ⟨_, _, rfl, k, o, by rw [Nat.add_assoc], hg, hc⟩
  · rename_i b ver off
    split at h
    · rename_i bx hb
      split at h
      · rename_i hver
        obtain rfl := Option.some.inj h
        obtain ⟨⟨h1, h2⟩, h3⟩ := hv
        obtain ⟨_, h4⟩ := h3 bx (by rw [hS]; exact hb)
        obtain ⟨k, hk, rfl⟩ := h4 hver
        refine ⟨_, _, rfl, ⟨h1, rfl⟩, fun bx' hb' => ⟨(h3 bx' hb').1, fun e => ?_⟩⟩
        exact ⟨k, hk, rfl⟩
      · cases h
    · cases h
  · cases h

theorem field?_some {t : TypeId} {i : Nat} {fd : Field} (h : field? P t i = some fd) : ∃ fs, P.underlying t = some (.struct fs) ∧ fs[i]? = some fd := by
  unfold field? at h
  split at h
  · rename_i fs hu; exact ⟨fs, hu, h⟩
  · cases h

theorem fieldAddr_sound {E : Env} {T : LS} (hS : E.S = T.S) {t : TypeId} {i n : Nat} {fd : Field} {p q : RV} {av : Value} (hf : field? P t i = some fd)
    (hn : size? P fd.type = some (n + 1)) (h : shift T p fd.offset = some q) (hv : V E p av) :
    ∃ v, (Instr.fieldAt t av i).run P E.w = .ok v E.w ∧ V E q v := by
  obtain ⟨fs, hu, hi⟩ := field?_some hf
  obtain ⟨k, o, rfl, hq⟩ := shift_sound hS h hv
  refine ⟨_, ?_, hq⟩
  simp [Instr.fieldAt, run_underlying hu, hi, Instr.sureAddr, fieldPlace, run_size hn, addr_eq]

theorem part_sound {E : Env} {t : TypeId} {cs : List PV} {off : Nat} {x : PV} {vs : Array Value} (h : partO P t cs off = some x) (hv : WL E cs vs.toList) :
    ∃ v, (part t vs off).run P E.w = .ok v E.w ∧ W E x v := by
  obtain ⟨h1, h2⟩ := WL_iff.1 hv
  unfold partO at h
  split at h
  · rename_i n ha hn
    split at h
    · rename_i hle
      obtain rfl := Option.some.inj h
      refine ⟨.agg (vs.extract off (off + n)), by simp [part, run_agg ha, run_size hn], (vs.toList.drop off).take n, ?_, WL_take (WL_drop hv off) n⟩
      congr 1
      apply Array.ext'
      simp [List.extract_eq_take_drop]
    · cases h
  · rename_i ha
    have hi : off < cs.length := by
      rcases Nat.lt_or_ge off cs.length with h' | h'
      · exact h'
      · simp [List.getElem?_eq_none h'] at h
    have hi' : off < vs.size := by simpa [h1] using hi
    refine ⟨vs[off], by simp [part, run_agg ha, hi'], h2 off x _ h (by simp [hi'])⟩
  · cases h

theorem field_sound {E : Env} {t : TypeId} {i : Nat} {fd : Field} {cs : List PV} {x : PV} {av : Value} (hf : field? P t i = some fd)
    (h : partO P fd.type cs fd.offset = some x) (hv : W E (.agg cs) av) : ∃ v, (Instr.field t av i).run P E.w = .ok v E.w ∧ W E x v := by
  obtain ⟨fs, hu, hi⟩ := field?_some hf
  obtain ⟨vs, rfl, hw⟩ := hv
  obtain ⟨v, h1, h2⟩ := part_sound (vs := vs.toArray) h hw
  refine ⟨v, ?_, h2⟩
  simp [Instr.field, run_underlying hu, hi, asAgg, h1]

theorem indexAddr_sound {E : Env} {T : LS} (hS : E.S = T.S) {t : TypeId} {x q : RV} {i : PV} {av iv : Value} (hI : Inv E) (h : indexAddrO P T t x i = some q) (hv : V E x av) (hi : W E i iv) :
    ∃ v, (Instr.indexAt t av iv).run P E.w = .ok v E.w ∧ V E q v := by
  unfold indexAddrO at h
  split at h
  · rename_i k n e hu
    obtain rfl : iv = _ := hi
    split at h
    · rename_i full m cs sz hsz
      split at h
      · rename_i hc
        obtain ⟨h0, h1, h2⟩ := hc
        obtain rfl := Option.some.inj h
        obtain ⟨A, c, rfl, hmc, _, h3⟩ := hv
        rcases h3 with rfl | ⟨kk, o, rfl, hg, hcs⟩
        · simp at h2
        · refine ⟨.pointer (some ⟨kk, o + n.toNat * sz, none⟩), ?_, kk, o, rfl, hg, hcs⟩
          simp [Instr.indexAt, asIntOf, run_underlying hu, h0, h1, run_size hsz, addr_eq]
      · cases h
    · rename_i b ver off m sz hsz
      split at h
      · rename_i bx hb
        split at h
        · rename_i hc
          obtain ⟨hver, h0, h1, hes⟩ := hc
          obtain rfl := Option.some.inj h
          obtain ⟨⟨g1, g2⟩, g3⟩ := hv
          obtain ⟨g4, g5⟩ := g3 bx (by rw [hS]; exact hb)
          obtain ⟨A, c, rfl, hmc, hz, hA⟩ := g5 hver
          have hb' : E.S.get b = some bx := by rw [hS]; exact hb
          obtain ⟨_, i2, i3, i4⟩ := hI.box b bx hb'
          have hc0 : 0 < c := by omega
          have hz0 : 0 < c * bx.esz := Nat.mul_pos hc0 i2
          cases hk : E.sg b with
          | none => have := (i4 hk).2; omega
          | some k' =>
            obtain rfl := hA k' hk
            refine ⟨.pointer (some ⟨k', off + n.toNat * sz, none⟩), ?_, ⟨g1, rfl⟩, fun bx' hb2 => ⟨(g3 bx' hb2).1, fun _ => ⟨k', hk, rfl⟩⟩⟩
            simp [Instr.indexAt, asIntOf, run_underlying hu, h0, h1, run_size hsz, addr_eq]
        · cases h
      · cases h
    · cases h
  · rename_i k n m e hu
    obtain rfl : iv = _ := hi
    split at h
    · rename_i sz hsz
      split at h
      · rename_i hc
        obtain ⟨kk, o, rfl, hq⟩ := shift_sound hS h hv
        refine ⟨_, ?_, hq⟩
        simp [Instr.indexAt, asIntOf, run_underlying hu, Instr.sureAddr, hc.1, hc.2, run_size hsz, addr_eq]
      · cases h
    · cases h
  · cases h
end
end Go.Pvm
