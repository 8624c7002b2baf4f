/-
  A part of the proof: Px1.
-/
import Derived.Test.YtmjnfdjhaopeiaaGreatDoorPv12
import Derived.Room.Shelf.Join48
/-
  PVM: strings.Join by the shelf's contract.
-/
namespace Go.Pvm
open Go

/-- What lies below stays: all values stay. -/
theorem Step.below {E : Env} (h : Inv E) {w' : World} (hb : Go.RowKit.Below E.w.heap.size E.w w') : Step E { E with w := w' } := by
  have hext : Ext E { E with w := w' } :=
    ⟨hb.os, hb.tape, hb.output, hb.size, fun k hk _ => hb.block k hk, fun _ h => h, fun _ h => .inl h, fun _ h => .inr h, Nat.le_refl _,
      fun _ bx' _ h => ⟨bx', h, fun _ => ⟨rfl, rfl, rfl⟩, Nat.le_refl _⟩⟩
  have hle := hext.le h
  have hin : ∀ {k cs n}, Holds E k cs n → k < E.w.heap.size := by
    rintro k cs n ⟨arr, T, h1, _⟩
    exact (Array.getElem?_eq_some_iff.1 h1).1
  refine ⟨hext, ⟨fun k hk => ⟨Nat.lt_of_lt_of_le (h.gam k hk).1 hb.size, (h.gam k hk).2⟩, fun b bx hbx => ?_, h.inj, fun d cs hd => ?_, h.linj, h.apart⟩, fun _ cs h => ⟨⟨cs, h⟩, rfl⟩⟩
  · obtain ⟨h1, h2, h3, h4⟩ := h.box b bx hbx
    exact ⟨h1, h2, fun k hk => (h3 k hk).mono hle (hb.block k (hin (h3 k hk))), h4⟩
  · exact (h.loc d cs hd).mono hle (hb.block _ (hin (h.loc d cs hd)))

/-- The texts that values are. -/
def strs? : List PV → Option (List ByteArray)
  | [] => some []
  | .s (.string x) :: r => (strs? r).map (x :: ·)
  | _ => none

def joinL (xs : List ByteArray) (sep : ByteArray) : List UInt8 := Lib.join (xs.map (·.data.toList)) sep.data.toList

def joinI (args : List PV) (S : Store) : Option (PV × Store) :=
  match args with
  | [.sl _ n cs, .s (.string sep)] => match strs? cs with
    | some xs => if n = xs.length ∧ n ≤ 140737488355328 ∧ (joinL xs sep).length ≤ 281474976710656 then some (.s (.string ⟨(joinL xs sep).toArray⟩), S) else none
    | none => none
  | [.s (.slice none 0 0), .s (.string _)] => some (.s (.string ⟨#[]⟩), S)
  | _ => none

theorem strs?_get {w : World} {G : Nat → Prop} : ∀ {cs : List PV} {xs : List ByteArray} {k o : Nat}, strs? cs = some xs → VpC w G cs k o →
    ∀ (j : Nat) (x : ByteArray), xs[j]? = some x → w.cell? ⟨k, o + j, none⟩ = some (.string x)
  | [], xs, k, o, h, _, j, x, hx => by
    obtain rfl := Option.some.inj h
    simp at hx
  | c :: cs, xs, k, o, h, hc, j, x, hx => by
    obtain ⟨⟨u, h1, h2⟩, h3⟩ := hc
    unfold strs? at h
    split at h
    · rename_i e; cases e
    · rename_i y r e
      obtain ⟨rfl, rfl⟩ := List.cons.inj e
      obtain ⟨ys, hy, rfl⟩ := Option.map_eq_some_iff.1 h
      cases j with
      | zero =>
        simp only [List.getElem?_cons_zero, Option.some.injEq] at hx
        obtain rfl : u = .string y := h2
        rw [Nat.add_zero, h1, hx]
      | succ j =>
        have := strs?_get hy h3 j x (by simpa using hx)
        rwa [show o + (j + 1) = o + 1 + j by omega]
    · cases h

theorem strs?_len : ∀ {cs : List PV} {xs : List ByteArray}, strs? cs = some xs → cs.length = xs.length
  | [], xs, h => by obtain rfl := Option.some.inj h; rfl
  | c :: cs, xs, h => by
    unfold strs? at h
    split at h
    · rename_i e; cases e
    · rename_i y r e
      obtain ⟨rfl, rfl⟩ := List.cons.inj e
      obtain ⟨ys, hy, rfl⟩ := Option.map_eq_some_iff.1 h
      simp [strs?_len hy]
    · cases h

theorem joinI_ok {P : Program} {ρ : Go.Shelf.Ren} (L : Go.Proofs.Lays.n156 P ρ) (X : Go.Proofs.Builder.Extra P ρ) {args : List PV} {S S' : Store} {r : PV} (h : joinI args S = some (r, S'))
    {E : Env} (hS : E.S = S) (hL : E.L = []) (hI : Inv E) {vs : List Value} (hv : WL E args vs) : Calls P (ρ.f 156) vs.toArray E.w (CallPost E r S') := by
  unfold joinI at h
  split at h
  · rename_i full n cs sep
    obtain ⟨v1, r1, rfl, hv1, v2, r2, rfl, hv2, rfl⟩ := hv
    obtain rfl : v2 = .string sep := hv2
    split at h
    · rename_i xs hxs
      split at h
      · rename_i hc
        obtain ⟨rfl, rfl⟩ := Prod.mk.inj (Option.some.inj h)
        obtain ⟨hn, hn2, hlen⟩ := hc
        obtain ⟨A, c, rfl, hnc, _, hA⟩ := hv1
        have fin : ∀ e w', (e = .returned (.string ⟨(joinL xs sep).toArray⟩) ∧ Go.RowKit.Below E.w.heap.size E.w w') → CallPost E (.s (.string ⟨(joinL xs sep).toArray⟩)) S e w' := by
          rintro e w' ⟨rfl, hb⟩
          have st := Step.below hI hb
          exact ⟨_, { E with w := w' }, rfl, rfl, hS, hL, st.ext, st.inv, rfl⟩
        rcases hA with rfl | ⟨k, o, rfl, hG, hC⟩
        · obtain rfl := Option.some.inj hxs
          obtain rfl : n = 0 := hn
          refine (Go.Proofs.Any.strings_Join_none L X A c sep E.w).mono fun e w' ⟨he, hw⟩ => fin e w' ⟨?_, hw ▸ Go.RowKit.Below.refl _ _⟩
          rw [he]; rfl
        · subst hn
          exact (Go.Proofs.Any.strings_Join_48 L X k o c xs sep E.w (strs?_get hxs hC) (hI.gam k hG).1 hn2 hnc hlen).mono fin
      · cases h
    · cases h
  · rename_i sep
    obtain ⟨rfl, rfl⟩ := Prod.mk.inj (Option.some.inj h)
    obtain ⟨v1, r1, rfl, hv1, v2, r2, rfl, hv2, rfl⟩ := hv
    obtain rfl : v2 = .string sep := hv2
    obtain rfl : v1 = .slice none 0 0 := hv1
    refine (Go.Proofs.Any.strings_Join_none L X none 0 sep E.w).mono ?_
    rintro e w' ⟨rfl, rfl⟩
    exact ⟨_, E, rfl, rfl, hS, hL, Ext.refl E, hI, rfl⟩
  · cases h
end Go.Pvm
