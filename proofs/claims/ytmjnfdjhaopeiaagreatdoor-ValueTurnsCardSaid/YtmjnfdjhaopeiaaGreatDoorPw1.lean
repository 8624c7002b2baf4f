/-
  A part of the proof: Pw1.
-/
import Derived.Test.YtmjnfdjhaopeiaaGreatDoorPv11
/-
  PVM: an operation looks at no more than its keys.
-/
namespace Go.Pvm
open Go

def agK (T T' : LS) : Key → Prop
  | .B b => T.S.get b = T'.S.get b
  | .H b => ((T.S.get b).map fun x => (x.ver, x.esz, x.cs.length)) = (T'.S.get b).map fun x => (x.ver, x.esz, x.cs.length)
  | .D b i => ((T.S.get b).map fun x => (x.ver, x.esz, x.cs.length, x.cs[i]?)) = (T'.S.get b).map fun x => (x.ver, x.esz, x.cs.length, x.cs[i]?)
  | .C d i => (look T.L d).bind (·[i]?) = (look T'.L d).bind (·[i]?)
  | .N => T.S.next = T'.S.next
  | .A => T.S = T'.S

structure Agree (ks : List Key) (T T' : LS) : Prop where
  shape : ∀ d, (look T.L d).map List.length = (look T'.L d).map List.length
  key : ∀ κ ∈ ks, agK T T' κ

theorem Agree.refl (ks : List Key) (T : LS) : Agree ks T T := ⟨fun _ => rfl, fun κ _ => by cases κ <;> rfl⟩

theorem Agree.look {ks : List Key} {T T' : LS} (h : Agree ks T T') {d : Nat} {cs : List PV} (hd : look T.L d = some cs) : ∃ cs', look T'.L d = some cs' ∧ cs'.length = cs.length := by
  have := h.shape d
  rw [hd] at this
  cases hq : Pvm.look T'.L d with
  | none => rw [hq] at this; cases this
  | some cs' => rw [hq] at this; exact ⟨cs', rfl, (Option.some.inj this).symm⟩

theorem Agree.B {ks : List Key} {T T' : LS} (h : Agree ks T T') {b : Nat} (hb : Key.B b ∈ ks) : T'.S.get b = T.S.get b := (h.key _ hb).symm

/-- The head of a box is the same. -/
theorem head_of {T T' : LS} {b : Nat} (h : agK T T' (.H b)) : (T.S.get b = none ∧ T'.S.get b = none) ∨
    ∃ bx bx', T.S.get b = some bx ∧ T'.S.get b = some bx' ∧ bx'.ver = bx.ver ∧ bx'.esz = bx.esz ∧ bx'.cs.length = bx.cs.length := by
  simp only [agK] at h
  cases h1 : T.S.get b <;> cases h2 : T'.S.get b <;> rw [h1, h2] at h
  · exact .inl ⟨rfl, rfl⟩
  · cases h
  · cases h
  · rename_i bx bx'
    simp only [Option.map_some, Option.some.injEq, Prod.mk.injEq] at h
    exact .inr ⟨bx, bx', rfl, rfl, h.1.symm, h.2.1.symm, h.2.2.symm⟩

theorem head_of_cell {T T' : LS} {b i : Nat} (h : agK T T' (.D b i)) : agK T T' (.H b) := by
  have h' : ((T.S.get b).map fun x => (x.ver, x.esz, x.cs.length, x.cs[i]?)) = (T'.S.get b).map fun x => (x.ver, x.esz, x.cs.length, x.cs[i]?) := h
  have := congrArg (Option.map fun (y : Nat × Nat × Nat × Option PV) => (y.1, y.2.1, y.2.2.1)) h'
  simpa [agK, Option.map_map, Function.comp_def] using this

theorem take_ext {cs cs' : List PV} {off n : Nat} (h : ∀ i, i < n → cs[off + i]? = cs'[off + i]?) : (cs'.drop off).take n = (cs.drop off).take n := by
  apply List.ext_getElem?
  intro i
  rcases Nat.lt_or_ge i n with hi | hi
  · rw [List.getElem?_take_of_lt hi, List.getElem?_take_of_lt hi, List.getElem?_drop, List.getElem?_drop, h i hi]
  · simp [List.getElem?_take, Nat.not_lt.2 hi]

section
variable {P : Program} {T T' : LS}

theorem load_agree {t : TypeId} {r : RV} {x : PV} (h : loadO P T t r = some x)
    (ha : Agree (keyL r (size? P t)) T T') : loadO P T' t r = some x := by
  cases r with
  | loc d off =>
    unfold loadO at h ⊢
    simp only [addrCells] at h ⊢
    cases hd : look T.L d with
    | none => simp [hd] at h
    | some cs =>
      obtain ⟨cs', hd', hl⟩ := ha.look hd
      simp only [hd, hd', Option.map_some] at h ⊢
      have hcell : ∀ i, Key.C d (off + i) ∈ keyL (.loc d off) (size? P t) → cs[off + i]? = cs'[off + i]? := by
        intro i hi
        have := ha.key _ hi
        simpa [agK, hd, hd'] using this
      cases hs : size? P t with
      | none =>
        rw [hs] at h
        cases hg : agg? P t with
        | none => rw [hg] at h; simp at h
        | some b =>
          exfalso
          unfold agg? at hg
          unfold size? at hs
          have hi : P.info? t = none := by cases hq : P.info? t <;> simp [hq] at hs ⊢
          simp [Program.underlying, hi] at hg
      | some n =>
        rw [hs] at h hcell
        simp only [keyL] at hcell
        cases hg : agg? P t with
        | none => rw [hg] at h; simp at h
        | some b =>
          rw [hg] at h
          cases b with
          | true =>
            simp only at h ⊢
            rw [hl]
            split at h
            · rename_i hle
              rw [if_pos hle, take_ext (fun i hi => hcell i (List.mem_map.2 ⟨i, List.mem_range.2 (by omega), rfl⟩))]
              exact h
            · cases h
          | false =>
            simp only at h ⊢
            have := hcell 0 (List.mem_map.2 ⟨0, List.mem_range.2 (by omega), rfl⟩)
            simp only [Nat.add_zero] at this
            rw [← this]; exact h
  | v p =>
    cases p with
    | ptr b ver off =>
      cases hs : size? P t with
      | none =>
        have e := ha.B (b := b) (by rw [hs]; simp [keyL, keyB])
        unfold loadO at h ⊢
        simp only [addrCells, e] at h ⊢
        exact h
      | some n =>
        have hcell : ∀ i, i < max n 1 → agK T T' (.D b (off + i)) := fun i hi => ha.key _ (by rw [hs]; simp only [keyL]; exact List.mem_map.2 ⟨i, List.mem_range.2 hi, rfl⟩)
        unfold loadO at h ⊢
        simp only [addrCells] at h ⊢
        rcases head_of (head_of_cell (hcell 0 (by omega))) with ⟨h1, h2⟩ | ⟨bx, bx', h1, h2, e1, e2, e3⟩
        · simp [h1] at h
        · simp only [h1, hs] at h
          simp only [h2, hs, e1]
          by_cases hv : bx.ver = ver
          · simp only [if_pos hv] at h ⊢
            have hc : ∀ i, i < max n 1 → bx.cs[off + i]? = bx'.cs[off + i]? := by
              intro i hi
              have := hcell i hi
              simp only [agK, h1, h2, Option.map_some, Option.some.injEq, Prod.mk.injEq] at this
              exact this.2.2.2
            cases hg : agg? P t with
            | none => rw [hg] at h; simp at h
            | some bb =>
              rw [hg] at h
              cases bb with
              | true =>
                simp only at h ⊢
                rw [e3]
                split at h
                · rename_i hle
                  rw [if_pos hle, take_ext (fun i hi => hc i (by omega))]
                  exact h
                · cases h
              | false =>
                simp only at h ⊢
                have := hc 0 (by omega)
                simp only [Nat.add_zero] at this
                rw [← this]; exact h
          · simp [if_neg hv] at h
    | _ => exact h

theorem keyH_get {ks : List Key} (ha : Agree ks T T') {r : RV} (hk : ∀ κ ∈ keyH r, κ ∈ ks) {b ver off : Nat} (hr : r = .v (.ptr b ver off)) : agK T T' (.H b) := by
  subst hr; exact ha.key _ (hk _ (by simp [keyH]))

theorem keyH_get2 {ks : List Key} (ha : Agree ks T T') {r : RV} (hk : ∀ κ ∈ keyH r, κ ∈ ks) {b ver off n : Nat} (hr : r = .v (.bsl b ver off n)) : agK T T' (.H b) := by
  subst hr; exact ha.key _ (hk _ (by simp [keyH]))

theorem keyB_get2 {ks : List Key} (ha : Agree ks T T') {r : RV} (hk : ∀ κ ∈ keyB r, κ ∈ ks) {b ver off n : Nat} (hr : r = .v (.bsl b ver off n)) : T'.S.get b = T.S.get b := by
  subst hr; exact ha.B (hk _ (by simp [keyB]))

theorem shift_agree {ks : List Key} (ha : Agree ks T T') {r : RV} (hk : ∀ κ ∈ keyH r, κ ∈ ks) (n : Nat) : shift T' r n = shift T r n := by
  cases r with
  | loc d off => rfl
  | v p =>
    cases p with
    | ptr b ver off =>
      simp only [shift]
      rcases head_of (keyH_get ha hk rfl) with ⟨h1, h2⟩ | ⟨bx, bx', h1, h2, e1, e2, e3⟩
      · rw [h1, h2]
      · rw [h1, h2]; simp only [e1]
    | _ => rfl

theorem src_agree {ks : List Key} (ha : Agree ks T T') {r : RV} (hk : ∀ κ ∈ keyB r, κ ∈ ks) (sz : Nat) : srcO T' sz r.pv = srcO T sz r.pv := by
  cases r with
  | loc d off => rfl
  | v p =>
    cases p with
    | bsl b ver off n => simp only [RV.pv, srcO, keyB_get2 ha hk rfl]
    | s v => cases v <;> rfl
    | _ => rfl

theorem slice_agree {ks : List Key} (ha : Agree ks T T') {r : RV} (hk : ∀ κ ∈ keyH r, κ ∈ ks) (t : TypeId) (lo hi mx : Option PV) : sliceO P T' t r.pv lo hi mx = sliceO P T t r.pv lo hi mx := by
  cases r with
  | loc d off => rfl
  | v p =>
    cases p with
    | bsl b ver off n =>
      unfold sliceO
      rcases head_of (keyH_get2 ha hk rfl) with ⟨h1, h2⟩ | ⟨bx, bx', h1, h2, e1, e2, e3⟩
      · cases P.underlying t with
        | none => rfl
        | some d => cases d <;> first | rfl | (simp only [RV.pv, h1, h2])
      · cases P.underlying t with
        | none => rfl
        | some d => cases d <;> first | rfl | (simp only [RV.pv, h1, h2, e1, e2])
    | ptr b ver off =>
      unfold sliceO
      rcases head_of (keyH_get ha hk rfl) with ⟨h1, h2⟩ | ⟨bx, bx', h1, h2, e1, e2, e3⟩
      · cases P.underlying t with
        | none => rfl
        | some d => cases d <;> first | rfl | (simp only [RV.pv, h1, h2])
      · cases P.underlying t with
        | none => rfl
        | some d => cases d <;> first | rfl | (simp only [RV.pv, h1, h2, e1, e2, e3])
    | s v =>
      unfold sliceO
      cases v <;> first | rfl | (cases P.underlying t with
        | none => rfl
        | some d => cases d <;> rfl)
    | _ =>
      unfold sliceO
      cases P.underlying t with
      | none => rfl
      | some d => cases d <;> rfl

theorem conv_agree {ks : List Key} (ha : Agree ks T T') {r : RV} (hk : ∀ κ ∈ keyB r, κ ∈ ks) (src dst : TypeId) : convO P T' src dst r.pv = convO P T src dst r.pv := by
  unfold convO
  rw [src_agree ha hk]

theorem indexAddr_agree {ks : List Key} (ha : Agree ks T T') {r : RV} (hk : ∀ κ ∈ keyH r, κ ∈ ks) (t : TypeId) (i : PV) : indexAddrO P T' t r i = indexAddrO P T t r i := by
  have hsh := fun n => shift_agree (T := T) (T' := T') ha hk n
  unfold indexAddrO
  split
  · split
    · rfl
    · rename_i b ver off n sz hsz
      rcases head_of (keyH_get2 ha hk rfl) with ⟨h1, h2⟩ | ⟨bx, bx', h1, h2, e1, e2, e3⟩
      · rw [h1, h2]
      · rw [h1, h2]; simp only [e1, e2]
    · rfl
  · simp only [hsh]
  · rfl

theorem setAt_length (off : Nat) (ps : List PV) : ∀ (cs : List PV) (i : Nat), (setAt off ps i cs).length = cs.length
  | [], i => rfl
  | c :: cs, i => by simp [setAt, setAt_length off ps cs (i + 1)]

theorem setAt_get (off : Nat) (ps : List PV) : ∀ (cs : List PV) (i j : Nat), (setAt off ps i cs)[j]? = cs[j]?.map fun c => if off ≤ i + j then (ps[i + j - off]?).getD c else c
  | [], i, j => by simp [setAt]
  | c :: cs, i, 0 => by simp [setAt]
  | c :: cs, i, j + 1 => by
    simp only [setAt, List.getElem?_cons_succ, setAt_get off ps cs (i + 1) j]
    rw [show i + 1 + j = i + (j + 1) by omega]

theorem setAt_splice {off : Nat} {ps cs : List PV} (h : off + ps.length ≤ cs.length) : splice cs off ps = setAt off ps 0 cs := by
  apply List.ext_getElem?
  intro j
  rw [setAt_get]
  unfold splice
  have e1 : (cs.take off).length = off := by simp; omega
  rcases Nat.lt_or_ge j off with h1 | h1
  · rw [List.append_assoc, List.getElem?_append_left (by omega), List.getElem?_take_of_lt h1]
    have : ¬ (off ≤ 0 + j) := by omega
    simp only [if_neg this]
    cases cs[j]? <;> rfl
  · rcases Nat.lt_or_ge j (off + ps.length) with h2 | h2
    · rw [List.append_assoc, List.getElem?_append_right (by omega), e1, List.getElem?_append_left (by omega)]
      have hj : j < cs.length := by omega
      have hp : j - off < ps.length := by omega
      rw [List.getElem?_eq_getElem hj]
      simp only [Option.map_some, Nat.zero_add, List.getElem?_eq_getElem hp, Option.getD_some]
      rw [if_pos h1]
    · rw [List.getElem?_append_right (by simp; omega), List.getElem?_drop]
      have e2 : off + ps.length + (j - (cs.take off ++ ps).length) = j := by simp; omega
      rw [e2]
      have hp : ps[0 + j - off]? = none := List.getElem?_eq_none (by omega)
      simp only [if_pos (show off ≤ 0 + j by omega), hp, Option.getD_none]
      cases cs[j]? <;> rfl
end

theorem append_agree {P : Program} {T T' T2 : LS} {ks : List Key} (ha : Agree ks T T') {t : TypeId} {s x : RV} {p : PV} (hx : ∀ κ ∈ keyB x, κ ∈ ks) (h : appendO P T t s.pv x.pv = some (p, T2)) :
    (∀ b ver off n, s = .v (.bsl b ver off n) → Key.B b ∈ ks → ∀ bx, T2.S.get b = some bx → appendO P T' t s.pv x.pv = some (p, (Eff.box b bx).app T')) ∧
    ((∀ b ver off n, s ≠ .v (.bsl b ver off n)) → Key.N ∈ ks → ∀ b bx r, T2.S.bs = (b, bx) :: r → appendO P T' t s.pv x.pv = some (p, (Eff.add b bx).app T')) := by
  unfold appendO at h ⊢
  split at h
  case h_2 => cases h
  rename_i e ht
  split at h
  case h_2 => cases h
  rename_i i hi
  rw [src_agree ha hx]
  split at h
  case h_2 => cases h
  rename_i ps m hsrc
  split at h
  case isFalse => cases h
  rename_i hc
  rw [if_pos hc]
  cases s with
  | loc d off => simp [RV.pv] at h
  | v s =>
    cases s with
    | sl full n cs =>
      cases full with
      | false => simp [RV.pv] at h
      | true =>
        simp only [RV.pv] at h ⊢
        split at h
        · rename_i hcond
          rw [if_pos hcond]
          obtain ⟨rfl, rfl⟩ := Prod.mk.inj (Option.some.inj h)
          refine ⟨fun b ver off n e => (by cases e), fun _ hN b bx r hb => ?_⟩
          simp only [Store.add, List.cons.injEq, Prod.mk.injEq] at hb
          obtain ⟨⟨rfl, rfl⟩, rfl⟩ := hb
          have e1 : T.S.next = T'.S.next := ha.key .N hN
          simp [Eff.app, Store.add, e1]
        · cases h
    | bsl b ver off n =>
      simp only [RV.pv] at h ⊢
      split at h
      · rename_i bx hb
        split at h
        · rename_i hcond
          obtain ⟨rfl, rfl⟩ := Prod.mk.inj (Option.some.inj h)
          refine ⟨fun b' ver' off' n' e hB bx' hb' => ?_, fun hne => absurd rfl (hne b ver off n)⟩
          cases e
          have e1 := ha.B hB
          rw [e1, hb]
          simp only
          rw [if_pos hcond]
          simp only [Store.get_put, if_true] at hb'
          obtain rfl := Option.some.inj hb'
          rfl
        · cases h
      · cases h
    | _ => simp [RV.pv] at h

theorem copy_agree {P : Program} {T T' T2 : LS} {ks : List Key} (ha : Agree ks T T') {t : TypeId} {x : RV} {p : PV} {b ver off n : Nat} (hx : ∀ κ ∈ keyB x, κ ∈ ks) (hB : Key.B b ∈ ks)
    (h : copyO P T t (.bsl b ver off n) x.pv = some (p, T2)) {bx : Box} (hb : T2.S.get b = some bx) : copyO P T' t (.bsl b ver off n) x.pv = some (p, (Eff.box b bx).app T') := by
  unfold copyO at h ⊢
  split at h
  case h_2 => cases h
  rename_i e ht
  split at h
  case h_2 => cases h
  rename_i sz hsz
  rw [src_agree ha hx]
  cases hsrc : srcO T sz x.pv with
  | none => simp [hsrc] at h
  | some q =>
    obtain ⟨ps, m⟩ := q
    rw [hsrc] at h
    simp only at h ⊢
    rw [ha.B hB]
    split at h
    · rename_i bx0 hb0
      split at h
      · rename_i hcond
        rw [if_pos hcond]
        obtain ⟨rfl, rfl⟩ := Prod.mk.inj (Option.some.inj h)
        simp only [Store.get_put, if_true] at hb
        obtain rfl := Option.some.inj hb
        rfl
      · cases h
    · cases h

theorem both_agree {x y : Option (PV × LS)} {T1 T' : LS} {r : RV} {sc : Option Nat} (h : (x.map fun p => (RV.v p.1, p.2, (none : Option Nat))) = some (r, T1, sc))
    (hy : ∀ p, x = some (p, T1) → y = some (p, T')) : (y.map fun p => (RV.v p.1, p.2, (none : Option Nat))) = some (r, T', none) := by
  obtain ⟨⟨p, T2⟩, hp, h2⟩ := Option.map_eq_some_iff.1 h
  obtain ⟨rfl, h3⟩ := Prod.mk.inj h2
  obtain ⟨rfl, _⟩ := Prod.mk.inj h3
  rw [hy p hp]
  rfl

theorem map_agree {α : Type} {x : Option α} {g : α → RV} {T T1 T' : LS} {r : RV} {sc : Option Nat} (h : (x.map fun p => (g p, T, (none : Option Nat))) = some (r, T1, sc)) :
    (x.map fun p => (g p, T', (none : Option Nat))) = some (r, T', none) := by
  obtain ⟨p, rfl, h2⟩ := Option.map_eq_some_iff.1 h
  obtain ⟨rfl, _⟩ := Prod.mk.inj h2
  rfl

theorem eff_none {e : Eff} {rd : List Key} {l : List Key} (h : some (Eff.none, l) = some (e, rd)) : e = .none ∧ rd = l := by
  obtain ⟨h1, h2⟩ := Prod.mk.inj (Option.some.inj h)
  exact ⟨h1.symm, h2.symm⟩

theorem new_agree {C : Cfg} {f : FuncId} {T T1 T' : LS} {d : Option Nat} {cs : List PV} {r : RV} {e : Eff} {rd : List Key} (h : newO C f T d cs = some (r, T1, none))
    (he : some (Eff.add T.S.next ⟨0, 1, cs⟩, [Key.N]) = some (e, rd)) (ha : Agree (rd ++ e.wr) T T') : newO C f T' d cs = some (r, e.app T', none) := by
  simp only [Option.some.injEq, Prod.mk.injEq] at he
  obtain ⟨rfl, rfl⟩ := he
  have hN : T.S.next = T'.S.next := ha.key .N (by simp)
  unfold newO at h ⊢
  split at h
  · split at h
    · simp at h
    · rename_i hp
      rw [if_neg hp]
      simp only [Option.some.injEq, Prod.mk.injEq] at h
      obtain ⟨rfl, _⟩ := h
      simp [Eff.app, Store.add, hN]
  · cases h

set_option maxHeartbeats 1000000 in
theorem evalOp_agree {C : Cfg} {rn : FuncId → List PV → Store → Option (PV × Store)} {f : FuncId} {o : Oper} {ρ : Operand → RV} {T T1 T' : LS} {r : RV} {e : Eff} {rd : List Key}
    (h : evalOp C (callF C rn) f o ρ T = some (r, T1, none)) (he : effO C o ρ T T1 = some (e, rd)) (ha : Agree (rd ++ e.wr) T T') :
    evalOp C (callF C rn) f o ρ T' = some (r, e.app T', none) := by
  have hl : ∀ κ ∈ rd, κ ∈ rd ++ e.wr := fun κ h => List.mem_append.2 (.inl h)
  unfold evalOp at h ⊢
  unfold effO at he
  dsimp only at h he ⊢
  cases hop : o.op <;> simp only [hop] at h he ⊢ <;> try (cases h; done) <;> try (cases he; done)
  case move x =>
    obtain ⟨rfl, rfl⟩ := eff_none he
    obtain ⟨rfl, _⟩ := Prod.mk.inj (Option.some.inj h); rfl
  case assign x =>
    obtain ⟨rfl, rfl⟩ := eff_none he
    obtain ⟨rfl, _⟩ := Prod.mk.inj (Option.some.inj h); rfl
  case pick c x y =>
    obtain ⟨rfl, rfl⟩ := eff_none he
    split at h
    · rename_i t hc
      obtain ⟨rfl, _⟩ := Prod.mk.inj (Option.some.inj h); rfl
    · cases h
  case build => obtain ⟨rfl, rfl⟩ := eff_none he; exact map_agree h
  case buildSlice => obtain ⟨rfl, rfl⟩ := eff_none he; exact map_agree h
  case binOp => obtain ⟨rfl, rfl⟩ := eff_none he; exact map_agree h
  case unOp => obtain ⟨rfl, rfl⟩ := eff_none he; exact map_agree h
  case convert =>
    obtain ⟨rfl, rfl⟩ := eff_none he
    rw [conv_agree ha hl]
    exact map_agree h
  case makeFunc => obtain ⟨rfl, rfl⟩ := eff_none he; exact map_agree h
  case index => obtain ⟨rfl, rfl⟩ := eff_none he; exact map_agree h
  case makeInterface =>
    obtain ⟨rfl, rfl⟩ := eff_none he
    split at h
    · cases h
    · exact map_agree h
    · cases h
  case field =>
    obtain ⟨rfl, rfl⟩ := eff_none he
    split at h
    · exact map_agree h
    · cases h
  case extract =>
    obtain ⟨rfl, rfl⟩ := eff_none he
    split at h
    · exact map_agree h
    · cases h
  case load t x =>
    obtain ⟨rfl, rfl⟩ := eff_none he
    obtain ⟨p, hp, h2⟩ := Option.map_eq_some_iff.1 h
    obtain ⟨rfl, _⟩ := Prod.mk.inj h2
    rw [load_agree hp ⟨ha.shape, fun κ hκ => ha.key κ (hl κ hκ)⟩]
    rfl
  case nilCheck x =>
    obtain ⟨rfl, rfl⟩ := eff_none he
    split at h
    · obtain ⟨rfl, _⟩ := Prod.mk.inj (Option.some.inj h); rfl
    · obtain ⟨rfl, _⟩ := Prod.mk.inj (Option.some.inj h); rfl
    · rename_i b ver off hx
      split at h
      · rename_i hb
        rcases head_of (keyH_get ha hl hx) with ⟨h1, h2⟩ | ⟨bx, bx', h1, h2, e1, e2, e3⟩
        · simp [h1] at hb
        · simp only [h1, Option.any_some] at hb
          simp only [h2, Option.any_some, e1]
          rw [if_pos hb]
          obtain ⟨rfl, _⟩ := Prod.mk.inj (Option.some.inj h); rfl
      · cases h
    · obtain ⟨rfl, _⟩ := Prod.mk.inj (Option.some.inj h); rfl
    · cases h
  case slice t x lo hi mx =>
    obtain ⟨rfl, rfl⟩ := eff_none he
    split at h
    · cases h
    · rename_i hc
      rw [if_neg hc, slice_agree ha hl]
      exact map_agree h
  case fieldAddr t x i =>
    obtain ⟨rfl, rfl⟩ := eff_none he
    split at h
    · split at h
      · rw [shift_agree ha hl]
        exact map_agree (g := fun p => p) h
      · cases h
    · cases h
  case indexAddr t x i =>
    obtain ⟨rfl, rfl⟩ := eff_none he
    rw [indexAddr_agree ha hl]
    exact map_agree (g := fun p => p) h
  case store t x y =>
    obtain ⟨T2, hp, h2⟩ := Option.map_eq_some_iff.1 h
    obtain ⟨rfl, _⟩ := Prod.mk.inj h2
    unfold storeO at hp ⊢
    split at he
    · rename_i ps d off hps hx
      obtain ⟨rfl, rfl⟩ := Prod.mk.inj (Option.some.inj he)
      rw [hps, hx] at hp
      rw [hps, hx]
      cases hn : size? C.P t with
      | none => simp [hn] at hp
      | some n =>
        simp only [hn] at hp ⊢
        split at hp
        · rename_i hpn
          rw [if_pos hpn]
          cases hd : look T.L d with
          | none => simp [hd] at hp
          | some cs =>
            obtain ⟨cs', hd', hle⟩ := ha.look hd
            simp only [hd] at hp
            simp only [hd', hle]
            split at hp
            · rename_i hfit
              rw [if_pos hfit]
              simp [Eff.app, hd']
            · cases hp
        · cases hp
    · rename_i ps b ver off hps hx
      split at he
      · rename_i bx hb
        split at he
        · cases he
        obtain ⟨rfl, rfl⟩ := Prod.mk.inj (Option.some.inj he)
        rcases head_of (ha.key (.H b) (by simp)) with ⟨h1, h2⟩ | ⟨bx0, bx', h1, h2, e1, e2, e3⟩
        · rw [h1] at hb; cases hb
        rw [hps, hx] at hp
        rw [hps, hx]
        cases hn : size? C.P t with
        | none => simp [hn] at hp
        | some n =>
          simp only [hn, h1] at hp
          simp only [h2, e1, e3]
          split at hp
          · rename_i hpn
            rw [if_pos hpn]
            split at hp
            · rename_i hfit
              rw [if_pos hfit]
              simp [Eff.app, h2, e1, setAt_splice (cs := bx'.cs) (off := off) (ps := ps) (by omega)]
            · cases hp
          · cases hp
      · cases he
    · cases he
  case makeSlice t n c =>
    obtain ⟨⟨p, T2⟩, hp, h2⟩ := Option.map_eq_some_iff.1 h
    obtain ⟨rfl, _⟩ := Prod.mk.inj h2
    rw [hp] at he
    simp only at he
    unfold makeSliceO at hp ⊢
    split at hp
    · rename_i e1 k1 n1 k2 c1 hu hn1 hc1
      split at hp
      · rename_i i z hi hz
        split at hp
        · rename_i hcond
          rw [if_pos hcond]
          obtain ⟨rfl, rfl⟩ := Prod.mk.inj (Option.some.inj hp)
          simp only [Store.add, Option.some.injEq, Prod.mk.injEq] at he
          obtain ⟨rfl, rfl⟩ := he
          have hN : T.S.next = T'.S.next := ha.key .N (by simp)
          simp [Eff.app, Store.add, hN]
        · cases hp
      · cases hp
    · cases hp
  case alloc e1 =>
    split at h
    · rename_i z hz
      simp only [hz] at he
      exact new_agree h he ha
    · cases h
  case box e1 x =>
    split at h
    · rename_i z hz
      simp only [hz] at he
      exact new_agree h he ha
    · cases h
  case call c =>
    cases hc : c.callee with
    | invoke rc m => rw [hc] at he; simp at he
    | builtin b =>
      rw [hc] at h he
      cases b <;> simp only at h he ⊢ <;> try (cases he; done)
      case len =>
        obtain ⟨rfl, rfl⟩ := eff_none he
        split at h
        · exact map_agree h
        · cases h
      case min => obtain ⟨rfl, rfl⟩ := eff_none he; exact map_agree h
      case max => obtain ⟨rfl, rfl⟩ := eff_none he; exact map_agree h
      case append =>
        split at h
        · rename_i sx x t u ts hxs hts
          rw [hxs, hts] at he
          simp only at he
          have main : (Option.map (fun p => (RV.v p.1, p.2, (none : Option Nat))) (appendO C.P T t (ρ sx).pv (ρ x).pv)) = some (r, T1, none) →
              (Option.map (fun p => (RV.v p.1, p.2, (none : Option Nat))) (appendO C.P T' t (ρ sx).pv (ρ x).pv)) = some (r, e.app T', none) := by
            intro h
            refine both_agree h fun p hp => ?_
            rw [hp] at he
            split at he
            · rename_i T2 b ver off n heq hs
              obtain ⟨rfl, rfl⟩ := Prod.mk.inj (Option.some.inj heq)
              split at he
              · rename_i bx hb
                obtain ⟨rfl, rfl⟩ := Prod.mk.inj (Option.some.inj he)
                exact (append_agree ha (s := ρ sx) (x := ρ x) (fun κ hκ => hl κ (List.mem_cons_of_mem _ hκ)) hp).1 b ver off n hs (by simp) bx hb
              · cases he
            · rename_i T2 heq hne
              obtain ⟨rfl, rfl⟩ := Prod.mk.inj (Option.some.inj heq)
              split at he
              · rename_i b bx l hb
                obtain ⟨rfl, rfl⟩ := Prod.mk.inj (Option.some.inj he)
                exact (append_agree ha (s := ρ sx) (x := ρ x) (fun κ hκ => hl κ (List.mem_cons_of_mem _ hκ)) hp).2 (fun b ver off n e => hne b ver off n e) (by simp) b bx l hb
              · cases he
            · cases he
          split at h
          · exact main h
          · exact main h
          · cases h
        · cases h
      case copy =>
        split at h
        · rename_i dx x t ts hxs hts
          rw [hxs, hts] at he
          simp only at he
          refine both_agree h fun p hp => ?_
          rw [hp] at he
          split at he
          · rename_i T2 b ver off n heq hs
            obtain ⟨rfl, rfl⟩ := Prod.mk.inj (Option.some.inj heq)
            split at he
            · rename_i bx hb
              obtain ⟨rfl, rfl⟩ := Prod.mk.inj (Option.some.inj he)
              rw [hs] at hp ⊢
              exact copy_agree ha (fun κ hκ => hl κ (List.mem_cons_of_mem _ hκ)) (by simp) hp hb
            · cases he
          · cases he
        · cases h
    | value g =>
      rw [hc] at h he
      simp only at h he ⊢
      split at h
      · rename_i g' first captured hg
        rw [hg] at he
        simp only at he
        split at he
        · rename_i hpure
          obtain ⟨rfl, rfl⟩ := eff_none he
          simp only [Bool.and_eq_true, Bool.not_eq_true'] at hpure
          obtain ⟨⟨p, S1⟩, hp, h2⟩ := Option.map_eq_some_iff.1 h
          obtain ⟨rfl, _⟩ := Prod.mk.inj h2
          have e1 : ∀ S, callF C rn g' (first ++ c.args.toList.map (fun x => (ρ x).pv) ++ captured) S =
              (rn g' (first ++ c.args.toList.map (fun x => (ρ x).pv) ++ captured) ⟨[], 0⟩).bind fun (r, S1) => (frz S1 9 r).map fun r => (r, S) := by
            intro S
            unfold callF
            rw [if_neg (by simp [hpure.1]), if_pos hpure.2]
          rw [e1] at hp ⊢
          obtain ⟨⟨r0, S2⟩, q1, q2⟩ := Option.bind_eq_some_iff.1 hp
          obtain ⟨r1, q3, q4⟩ := Option.map_eq_some_iff.1 q2
          obtain ⟨rfl, rfl⟩ := Prod.mk.inj q4
          rw [q1]
          simp [q3, Eff.app]
        · split at he
          · rename_i hfull
            obtain ⟨rfl, rfl⟩ := eff_none he
            simp only [Bool.and_eq_true] at hfull
            obtain ⟨⟨p, S1⟩, hp, h2⟩ := Option.map_eq_some_iff.1 h
            obtain ⟨rfl, h3⟩ := Prod.mk.inj h2
            obtain ⟨rfl, _⟩ := Prod.mk.inj h3
            have e1 : T.S = S1 := Store.same_eq hfull.2
            have e2 : T.S = T'.S := ha.key .A (by simp)
            rw [← e2, hp]
            subst e1
            simp [Eff.app, e2]
          · cases he
      · cases h
end Go.Pvm
