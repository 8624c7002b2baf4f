/-
  A part of the proof: Pv9.
-/
import Derived.Test.YtmjnfdjhaopeiaaGreatDoorPv8
/-
  PVM, part 9: append and copy, on pure values.
-/
namespace Go.Pvm
open Go
section
variable {P : Program}

theorem WL_len {E : Env} {cs : List PV} {vs : Array Value} (h : WL E cs vs.toList) : cs.length = vs.size := by simpa using (WL_iff.1 h).1

theorem ones {E : Env} {ps : List PV} {vs : List Value} (h : ps.all oneC = true) (hw : WL E ps vs) : ∀ v ∈ vs, v.oneCell' = true := by
  obtain ⟨h1, h2⟩ := WL_iff.1 hw
  intro v hv
  obtain ⟨i, hi, rfl⟩ := List.mem_iff_getElem.1 hv
  have hi' : i < ps.length := by omega
  exact oneC_sound (List.all_eq_true.1 h ps[i] (List.getElem_mem hi')) (h2 i ps[i] vs[i] (by simp) (by simp))

theorem zero_size (z : Array Value) (n : Nat) : (Builtin.zeroCells z n).size = n * z.size := by simp [Builtin.zeroCells]

theorem take_app {α : Type} (a b c : List α) : (a ++ b ++ c).take (a ++ b).length = a ++ b := by
  rw [List.take_append, List.take_of_length_le (Nat.le_refl _)]; simp

theorem full_src {E : Env} {sz m : Nat} {ps : List PV} {xv : Value} (hl : ps.length = m * sz)
    (h : ∀ k, k ≤ m → ∀ w : World, w.heap = E.w.heap → ∃ news, (Builtin.firstCells sz k xv).run P w = .ok news w ∧ WL E (ps.take (k * sz)) news.toList) :
    ∀ w : World, w.heap = E.w.heap → ∃ news, (Builtin.firstCells sz m xv).run P w = .ok news w ∧ WL E ps news.toList := by
  intro w hw
  obtain ⟨news, h1, h2⟩ := h m (Nat.le_refl _) w hw
  exact ⟨news, h1, by rwa [List.take_of_length_le (by omega)] at h2⟩

set_option maxHeartbeats 1000000 in
theorem append_sound {E : Env} {T T' : LS} (hS : E.S = T.S) (hL : E.L = T.L) (hI : Inv E) {t u ty : TypeId} {du : TypeDesc} {rest : List TypeId} {s x r : PV} {sv xv : Value}
    (hu : P.underlying u = some du) (hdu : (∃ e2, du = .slice e2) ∨ du = .string)
    (h : appendO P T t s x = some (r, T')) (hs : W E s sv) (hx : W E x xv) :
    ∃ v E', (Builtin.append_ (t :: u :: rest).toArray ty #[sv, xv]).run P E.w = .ok v E'.w ∧ Step E E' ∧ E'.S = T'.S ∧ E'.L = T'.L ∧ W E' r v := by
  unfold appendO at h
  split at h
  case h_2 => cases h
  rename_i e ht
  split at h
  case h_2 => cases h
  rename_i i hi
  split at h
  case h_2 => cases h
  rename_i ps m hsrc
  split at h
  case isFalse => cases h
  rename_i hc0
  obtain ⟨hsz, hone⟩ := hc0
  obtain ⟨x1, x2, x3'⟩ := src_sound (P := P) hS hI hsrc hx
  have x3 := full_src x2 x3'
  have hI1 : Inv { E with w := E.w.drew } := (Step.drew hI).inv
  have hle1 : Le E { E with w := E.w.drew } := (Step.drew hI).ext.le hI
  split at h
  · -- a slice that is full
    rename_i n cs
    split at h
    case isFalse => cases h
    rename_i hc
    obtain ⟨c1, c2, c3, c4, c5, c6⟩ := hc
    obtain ⟨z, hz, hzs⟩ : ∃ z, i.zero = some z ∧ z.cells.size = i.size := by
      cases hq : i.zero with
      | none => simp [hq] at c6
      | some z => exact ⟨z, rfl, by simpa [hq] using c6⟩
    obtain ⟨rfl, rfl⟩ := Prod.mk.inj (Option.some.inj h)
    have hself : srcO T i.size (.sl true n cs) = some (cs, n) := by simp [srcO, c1]
    obtain ⟨_, s2, s3'⟩ := src_sound (P := P) hS hI hself hs
    have s3 := full_src s2 s3'
    obtain ⟨A, c, rfl, hnc, hfull, _⟩ := hs
    obtain rfl := hfull rfl
    by_cases hm : m = 0
    · subst hm
      have hn0 : c = 0 := by omega
      subst hn0
      have hcs : cs = [] := List.eq_nil_of_length_eq_zero (by simpa using c1)
      have hps : ps = [] := List.eq_nil_of_length_eq_zero (by simpa using x2)
      subst hcs hps
      obtain ⟨news, n1, n2⟩ := x3 E.w rfl
      have hnews : news = #[] := Array.eq_empty_of_size_eq_zero (by have := WL_len n2; simpa using this.symm)
      subst hnews
      have hrun := append_fits (P := P) (ty := ty) (w := E.w) (w' := E.w) (A := A) (s := .slice A 0 0) (n := 0) (c := 0) ht hu hdu hi rfl x1 n1 (by omega : (0 : Nat) + 0 ≤ 0) rest (by
        cases A with
        | none => exact .inl ⟨rfl, rfl⟩
        | some a => exact .inr ⟨a, rfl, by simp [storeCells]⟩)
      refine ⟨_, { E with sg := upd E.sg E.S.next none, z := upd E.z E.S.next 0, S := E.S.add ⟨0, i.size, []⟩ }, hrun, Step.boxNone hI i.size hsz, by show E.S.add _ = T.S.add _; rw [hS]; rfl, hL, ?_⟩
      have hbn : T.S.next = E.S.next := by rw [hS]
      rw [hbn]
      refine ⟨⟨Nat.lt_succ_self _, _, _, rfl⟩, fun bx hb => ?_⟩
      have hb' : (E.S.add ⟨0, i.size, []⟩).get E.S.next = some bx := hb
      rw [Store.get_add, if_pos rfl] at hb'
      obtain rfl := Option.some.inj hb'
      refine ⟨Nat.le_refl _, fun _ => ⟨_, _, rfl, Nat.le_refl _, by simp, fun k hk => ?_⟩⟩
      have hk' : upd E.sg E.S.next none E.S.next = some k := hk
      simp [upd] at hk'
    · obtain ⟨olds, o1, o2⟩ := s3 E.w.drew rfl
      obtain ⟨news, n1, n2⟩ := x3 E.w.drew rfl
      obtain ⟨cap, hcap, hrun⟩ := append_grows (P := P) (ty := ty) ht hu hdu hi hz rfl x1 o1 n1 (by omega) c3 c4 rest
      have hlo := WL_len o2
      have hln := WL_len n2
      have hsize : (olds ++ news ++ Builtin.zeroCells z.cells (cap - (c + m))).size = cap * i.size := by
        simp only [Array.size_append, zero_size, hzs, ← hlo, ← hln, s2, x2]
        rw [← Nat.add_mul, ← Nat.add_mul]; congr 1; omega
      have hlen : (cs ++ ps).length = (c + m) * i.size := by simp [s2, x2, Nat.add_mul]
      have hst := Step.box hI1 (olds ++ news ++ Builtin.zeroCells z.cells (cap - (c + m))) e ⟨0, i.size, cs ++ ps⟩ hsz (by
          rw [hsize]; simp only [hlen]; exact Nat.mul_le_mul_right _ hcap) (by
          have h1 : (cs ++ ps).length = (olds.toList ++ news.toList).length := by simp [hlo, hln]
          have h2 : (olds ++ news ++ Builtin.zeroCells z.cells (cap - (c + m))).toList.take (cs ++ ps).length = olds.toList ++ news.toList := by
            rw [h1]; simp only [Array.toList_append]; exact take_app _ _ _
          show WL _ (cs ++ ps) (List.take (cs ++ ps).length _)
          rw [h2]
          exact WL_append (WL.mono hle1 _ _ o2) (WL.mono hle1 _ _ n2))
      refine ⟨_, _, hrun, (Step.drew hI).trans hst, by show E.S.add _ = T.S.add _; rw [hS], hL, ?_⟩
      have hbn : T.S.next = E.S.next := by rw [hS]
      rw [hbn]
      refine ⟨⟨Nat.lt_succ_self _, _, _, rfl⟩, fun bx hb => ?_⟩
      have hb' : (E.S.add ⟨0, i.size, cs ++ ps⟩).get E.S.next = some bx := hb
      rw [Store.get_add, if_pos rfl] at hb'
      obtain rfl := Option.some.inj hb'
      refine ⟨Nat.le_refl _, fun _ => ⟨_, _, rfl, hcap, ?_, fun k hk => ?_⟩⟩
      · show 0 + cap * i.size ≤ upd E.z E.S.next (olds ++ news ++ Builtin.zeroCells z.cells (cap - (c + m))).size E.S.next
        rw [show upd E.z E.S.next (olds ++ news ++ Builtin.zeroCells z.cells (cap - (c + m))).size E.S.next = cap * i.size from by simp only [upd, if_true]; exact hsize]
        omega
      · have hk' : upd E.sg E.S.next (some E.w.heap.size) E.S.next = some k := hk
        simp [upd] at hk'
        rw [hk']
  · -- a slice of the call's own
    rename_i b ver off n
    split at h
    case h_2 => cases h
    rename_i bx hb
    split at h
    case isFalse => cases h
    rename_i hc
    obtain ⟨hver, rfl, hes, hle, hone1, c3, c4, c6⟩ := hc
    obtain ⟨z, hz, hzs⟩ : ∃ z, i.zero = some z ∧ z.cells.size = i.size := by
      cases hq : i.zero with
      | none => simp [hq] at c6
      | some z => exact ⟨z, rfl, by simpa [hq] using c6⟩
    obtain ⟨rfl, rfl⟩ := Prod.mk.inj (Option.some.inj h)
    have hb' : E.S.get b = some bx := by rw [hS]; exact hb
    have hself : srcO T i.size (.bsl b ver 0 n) = some ((bx.cs.drop 0).take (n * i.size), n) := by simp [srcO, hb, hver, hle]
    obtain ⟨_, s2, s3'⟩ := src_sound (P := P) hS hI hself hs
    simp only [List.drop_zero] at s2 s3'
    have s3 := full_src s2 s3'
    obtain ⟨⟨g1, _⟩, g3⟩ := hs
    obtain ⟨_, g5⟩ := g3 bx hb'
    obtain ⟨A, c, rfl, hnc, hzb, hA⟩ := g5 hver
    obtain ⟨b1, b2, b3, b4⟩ := hI.box b bx hb'
    have hbx' : ∀ bx2, (E.S.put b ⟨ver + 1, i.size, bx.cs.take (n * i.size) ++ ps⟩).get b = some bx2 → bx2 = ⟨ver + 1, i.size, bx.cs.take (n * i.size) ++ ps⟩ := by
      intro bx2 h2
      rw [Store.get_put, if_pos rfl] at h2
      exact (Option.some.inj h2).symm
    have hlenb : (bx.cs.take (n * i.size) ++ ps).length = (n + m) * i.size := by rw [List.length_append, s2, x2, Nat.add_mul]
    by_cases hg : n + m ≤ c
    · obtain ⟨news, n1, n2⟩ := x3 E.w rfl
      have hln := WL_len n2
      cases hk : E.sg b with
      | none =>
        obtain ⟨q1, q2⟩ := b4 hk
        have hn0 : n = 0 := by
          rw [q1] at hle
          rcases Nat.mul_eq_zero.1 (Nat.le_zero.1 hle) with q | q
          · exact q
          · omega
        have hc0 : c = 0 := by
          rw [q2] at hzb
          have : c * bx.esz = 0 := by omega
          rcases Nat.mul_eq_zero.1 this with q | q
          · exact q
          · omega
        have hm0 : m = 0 := by omega
        subst hn0 hc0 hm0
        have hps : ps = [] := List.eq_nil_of_length_eq_zero (by simpa using x2)
        subst hps
        have hnews : news = #[] := Array.eq_empty_of_size_eq_zero (by simpa using hln.symm)
        subst hnews
        have hrun := append_fits (P := P) (ty := ty) (w := E.w) (w' := E.w) (A := A) (s := .slice A 0 0) (n := 0) (c := 0) ht hu hdu hi rfl x1 n1 (by omega : (0 : Nat) + 0 ≤ 0) rest (by
          cases A with
          | none => exact .inl ⟨rfl, rfl⟩
          | some a => exact .inr ⟨a, rfl, by simp [storeCells]⟩)
        have hst := Step.rebox hI hb' (bx' := ⟨ver + 1, i.size, bx.cs.take (0 * i.size) ++ []⟩) (by show bx.ver ≤ ver + 1; omega) hes.symm (fun k hk' => by rw [hk] at hk'; cases hk') (fun _ => by simp)
        refine ⟨_, { E with S := E.S.put b ⟨ver + 1, i.size, bx.cs.take (0 * i.size) ++ []⟩ }, hrun, hst, by show E.S.put b _ = T.S.put b _; rw [hS], hL, ⟨g1, _, _, rfl⟩, fun bx2 h2 => ?_⟩
        obtain rfl := hbx' bx2 h2
        refine ⟨Nat.le_refl _, fun _ => ⟨_, _, rfl, Nat.le_refl _, by simp, fun k hk' => ?_⟩⟩
        have hk2 : E.sg b = some k := hk'
        rw [hk] at hk2; cases hk2
      | some k =>
        obtain rfl := hA k hk
        obtain ⟨arr, Ty, h1, h2, h3, h4⟩ := (b3 k hk).ex
        have hfit : n * i.size + news.toList.length ≤ arr.size := by
          have e1 : news.toList.length = m * i.size := by simp; omega
          have e2 : (n + m) * i.size ≤ c * i.size := Nat.mul_le_mul_right _ hg
          rw [Nat.add_mul] at e2
          rw [hes] at hzb
          omega
        have hst0 := run_stores (P := P) h1 (off := n * i.size) (vs := news.toList) hfit (ones hone n2)
        have hrun := append_fits (P := P) (ty := ty) (w := E.w) (A := some ⟨k, 0, none⟩) (s := .slice (some ⟨k, 0, none⟩) n c) ht hu hdu hi rfl x1 n1 hg rest (.inr ⟨_, rfl, by
          rw [addr_eq, Nat.zero_add]
          exact hst0⟩)
        have hst := Step.write hI hb' hk (bx' := ⟨ver + 1, i.size, bx.cs.take (n * i.size) ++ ps⟩) (arr := laid arr (n * i.size) news.toList) (T := Ty)
          (by rw [laid_size hfit]; exact h2) (by
            show (bx.cs.take (n * i.size) ++ ps).length ≤ _
            rw [laid_size hfit, hlenb, Nat.add_mul]
            have e1 : news.toList.length = m * i.size := by simp; omega
            omega) (by show bx.ver ≤ ver + 1; omega) hes.symm (by
            show WL E (bx.cs.take (n * i.size) ++ ps) ((laid arr (n * i.size) news.toList).toList.take (bx.cs.take (n * i.size) ++ ps).length)
            have e0 : (bx.cs.take (n * i.size) ++ ps).length = (arr.toList.take (n * i.size) ++ news.toList).length := by
              rw [hlenb, Nat.add_mul]; simp; omega
            have e1 : (laid arr (n * i.size) news.toList).toList.take (bx.cs.take (n * i.size) ++ ps).length = arr.toList.take (n * i.size) ++ news.toList := by
              rw [e0]; simp only [laid]; exact take_app _ _ _
            rw [e1]
            refine WL_append ?_ n2
            have := WL_take h4 (n * i.size)
            rwa [List.take_take, Nat.min_eq_left hle] at this)
        refine ⟨_, _, hrun, hst, by show E.S.put b _ = T.S.put b _; rw [hS], hL, ⟨g1, _, _, rfl⟩, fun bx2 h2' => ?_⟩
        obtain rfl := hbx' bx2 h2'
        refine ⟨Nat.le_refl _, fun _ => ⟨_, _, rfl, hg, ?_, fun k' hk' => ?_⟩⟩
        · show 0 + c * i.size ≤ E.z b
          rw [hes] at hzb; exact hzb
        · have hk2 : E.sg b = some k' := hk'
          rw [hk] at hk2
          obtain rfl := Option.some.inj hk2
          rfl
    · obtain ⟨olds, o1, o2⟩ := s3 E.w.drew rfl
      obtain ⟨news, n1, n2⟩ := x3 E.w.drew rfl
      obtain ⟨cap, hcap, hrun⟩ := append_grows (P := P) (ty := ty) ht hu hdu hi hz rfl x1 o1 n1 (by omega) c3 c4 rest
      have hlo := WL_len o2
      have hln := WL_len n2
      have hsize : (olds ++ news ++ Builtin.zeroCells z.cells (cap - (n + m))).size = cap * i.size := by
        simp only [Array.size_append, zero_size, hzs, ← hlo, ← hln, s2, x2]
        rw [← Nat.add_mul, ← Nat.add_mul]; congr 1; omega
      have hst := Step.regrow hI1 (b := b) (bx := bx) (bx' := ⟨ver + 1, i.size, bx.cs.take (n * i.size) ++ ps⟩) hb' (olds ++ news ++ Builtin.zeroCells z.cells (cap - (n + m))) e (by
          show (bx.cs.take (n * i.size) ++ ps).length ≤ _
          rw [hsize, hlenb]; exact Nat.mul_le_mul_right _ hcap) (by show bx.ver < ver + 1; omega) hes.symm (by
          have h1 : (bx.cs.take (n * i.size) ++ ps).length = (olds.toList ++ news.toList).length := by
            rw [List.length_append, List.length_append, hlo, hln]; rfl
          have h2 : (olds ++ news ++ Builtin.zeroCells z.cells (cap - (n + m))).toList.take (bx.cs.take (n * i.size) ++ ps).length = olds.toList ++ news.toList := by
            rw [h1]; simp only [Array.toList_append]; exact take_app _ _ _
          show WL _ (bx.cs.take (n * i.size) ++ ps) (List.take (bx.cs.take (n * i.size) ++ ps).length _)
          rw [h2]
          exact WL_append (WL.mono hle1 _ _ o2) (WL.mono hle1 _ _ n2))
      refine ⟨_, _, hrun, (Step.drew hI).trans hst, by show E.S.put b _ = T.S.put b _; rw [hS], hL, ⟨g1, _, _, rfl⟩, fun bx2 h2' => ?_⟩
      obtain rfl := hbx' bx2 h2'
      refine ⟨Nat.le_refl _, fun _ => ⟨_, _, rfl, hcap, ?_, fun k hk => ?_⟩⟩
      · show 0 + cap * i.size ≤ upd E.z b (olds ++ news ++ Builtin.zeroCells z.cells (cap - (n + m))).size b
        rw [show upd E.z b (olds ++ news ++ Builtin.zeroCells z.cells (cap - (n + m))).size b = cap * i.size from by simp only [upd, if_true]; exact hsize]
        omega
      · have hk' : upd E.sg b (some E.w.heap.size) b = some k := hk
        simp [upd] at hk'
        rw [hk']
  · cases h

theorem copy_sound {E : Env} {T T' : LS} (hS : E.S = T.S) (hL : E.L = T.L) (hI : Inv E) {t ty : TypeId} {ats : Array TypeId} {d x r : PV} {dv xv : Value}
    (hat : ats[0]? = some t) (h : copyO P T t d x = some (r, T')) (hd : W E d dv) (hx : W E x xv) :
    ∃ v E', (Builtin.copy_ ats ty #[dv, xv]).run P E.w = .ok v E'.w ∧ Step E E' ∧ E'.S = T'.S ∧ E'.L = T'.L ∧ W E' r v := by
  unfold copyO at h
  split at h
  case h_2 => cases h
  rename_i e ht
  split at h
  case h_2 => cases h
  rename_i sz hsz
  split at h
  case h_2 => cases h
  rename_i ps m b ver off n hsrc
  split at h
  case h_2 => cases h
  rename_i bx hb
  split at h
  case isFalse => cases h
  rename_i hc
  obtain ⟨hver, hes, h0, hle, hone⟩ := hc
  obtain ⟨rfl, rfl⟩ := Prod.mk.inj (Option.some.inj h)
  obtain ⟨x1, x2, x3⟩ := src_sound (P := P) hS hI hsrc hx
  obtain ⟨news, n1, n2⟩ := x3 (min m n) (Nat.min_le_left _ _) E.w rfl
  have hb' : E.S.get b = some bx := by rw [hS]; exact hb
  obtain ⟨⟨g1, _⟩, g3⟩ := hd
  obtain ⟨_, g5⟩ := g3 bx hb'
  obtain ⟨A, c, rfl, hnc, hzb, hA⟩ := g5 hver
  obtain ⟨b1, b2, b3, b4⟩ := hI.box b bx hb'
  have hln := WL_len n2
  have hmn : min m n * sz ≤ n * sz := Nat.mul_le_mul_right _ (Nat.min_le_right _ _)
  have hmm : min m n * sz ≤ m * sz := Nat.mul_le_mul_right _ (Nat.min_le_left _ _)
  have hpl : (ps.take (min m n * sz)).length = min m n * sz := by rw [List.length_take]; omega
  have hrun : ∀ w', (∀ a, A = some a → (storeCells a news.toList).run P E.w = .ok () w') → (A = none → w' = E.w) →
      (Builtin.copy_ ats ty #[.slice A n c, xv]).run P E.w = .ok (goInt (min m n : Nat)) w' := by
    intro w' h1 h2
    have n1' : (Builtin.firstCells sz (m.min n) xv).run P E.w = .ok news E.w := n1
    cases A with
    | none => obtain rfl := h2 rfl; simp [Builtin.copy_, hat, run_underlying ht, x1, run_size hsz, n1']
    | some a => simp [Builtin.copy_, hat, run_underlying ht, x1, run_size hsz, n1', h1 a rfl]
  cases hk : E.sg b with
  | none =>
    obtain ⟨q1, q2⟩ := b4 hk
    have hn0 : n * sz = 0 := by rw [q1] at hle; simp at hle; omega
    have hnews : news = #[] := Array.eq_empty_of_size_eq_zero (by omega)
    subst hnews
    have hr := hrun E.w (fun a _ => by simp [storeCells]) (fun _ => rfl)
    have hst := Step.rebox hI hb' (bx' := { bx with cs := splice bx.cs off (ps.take (min m n * sz)) }) (Nat.le_refl _) rfl (fun k hk' => by rw [hk] at hk'; cases hk') (fun _ => by
      show splice bx.cs off _ = []
      apply List.eq_nil_of_length_eq_zero
      rw [splice_length (by omega), q1]; rfl)
    exact ⟨_, { E with S := E.S.put b { bx with cs := splice bx.cs off (ps.take (min m n * sz)) } }, hr, hst, by show E.S.put b _ = T.S.put b _; rw [hS], hL, rfl⟩
  | some k =>
    obtain rfl := hA k hk
    obtain ⟨arr, Ty, h1, h2, h3, h4⟩ := (b3 k hk).ex
    have hfit : off + news.toList.length ≤ arr.size := by simp; omega
    have hones : ∀ v ∈ news.toList, v.oneCell' = true := ones (ps := ps.take (min m n * sz)) (by
      rw [List.all_eq_true] at hone ⊢
      exact fun p hp => hone p (List.mem_of_mem_take hp)) n2
    have hst0 := run_stores (P := P) h1 (off := off) (vs := news.toList) hfit hones
    have hr := hrun _ (fun a ha => by obtain rfl := Option.some.inj ha; exact hst0) (fun ha => by cases ha)
    have hst := Step.write hI hb' hk (bx' := { bx with cs := splice bx.cs off (ps.take (min m n * sz)) }) (arr := laid arr off news.toList) (T := Ty)
      (by rw [laid_size hfit]; exact h2) (by rw [laid_size hfit, splice_length (by omega)]; omega) (Nat.le_refl _) rfl (WL_laid h4 n2 (by omega))
    exact ⟨_, _, hr, hst, by show E.S.put b _ = T.S.put b _; rw [hS], hL, rfl⟩
end
end Go.Pvm
