/-
  A part of the proof: N3, N4.
-/
import Derived.RangeFuncFrom
import Derived.RangeFuncLeaves
import Derived.RangeFuncCalls
import Derived.Shelf.Abstract
import Derived.Shelf.RegionOpen
import Derived.WalkKit
import Derived.OwnWalkIn
import Derived.TacticsInMore
import Derived.LoopNIn
import Derived.LoopIn
import Derived.Shelf.Strings.Search3
import Derived.Test.YtmjnfdjhaopeiaaGreatDoorNA
namespace Go.Proofs.YtmjnfdjhaopeiaaGreatDoor.N0
open Go Go.Pvm Go.Proofs Go.RowKit Go.Shelf
attribute [local go_sem] Oper.semAt_some
set_option maxRecDepth 100000

def splitW (s : ByteArray) (w : World) : World := ((w.alloc (.cells #[.string s] 9)).alloc (.cells #[.string ⟨#[45]⟩] 9)).alloc (.cells #[.int .i64 0] 3)
def splitV (w : World) : Value := .func (.func 117) #[] #[.pointer (some ⟨w.heap.size + 1, 0, none⟩), .pointer (some ⟨w.heap.size, 0, none⟩), .pointer (some ⟨w.heap.size + 1 + 1, 0, none⟩)]

set_option maxHeartbeats 1000000 in
theorem seq_in (F : Fence) (n : Nat) (h : F.fn 103) (hro : F.round = none) (s : ByteArray) (w : World) :
    CallsIn F n Tryz.prog 103 #[.string s, .string ⟨#[45]⟩, .int .i64 0] w fun e w' => e = .returned (splitV w) ∧ w' = splitW s w := by
  refine callsIn_of_wp Tryz.func103 rfl h ?_ hro
  simp only [Tryz.ntmps103, List.size_toArray, List.length_cons, List.length_nil, Nat.reduceAdd, Nat.reduceSub, Array.replicate_succ, Array.replicate_zero, List.push_toArray, List.append_toArray, List.nil_append, List.cons_append]
  gi_wp2
  go_ret
  exact ⟨rfl, rfl⟩

set_option maxHeartbeats 1000000 in
theorem split_in (F : Fence) (n : Nat) (h : F.fn 86) (h' : F.fn 103) (hro : F.round = none) (hn : 1 ≤ n) (s : ByteArray) (w : World) :
    CallsIn F n Tryz.prog 86 #[.string s, .string ⟨#[45]⟩] w fun e w' => e = .returned (splitV w) ∧ w' = splitW s w := by
  refine callsIn_of_wp Tryz.func86 rfl h ?_ hro
  simp only [Tryz.ntmps86, List.size_toArray, List.length_cons, List.length_nil, Nat.reduceAdd, Nat.reduceSub, Array.replicate_succ, Array.replicate_zero, List.push_toArray, List.append_toArray, List.nil_append, List.cons_append]
  gi_wp2_with (gi_at_call 103; refine (seq_in F (n - 1) h' hro _ _).mono ?_; rintro e w' ⟨rfl, rfl⟩)
  go_ret
  exact ⟨rfl, rfl⟩

def idxRen : Go.Shelf.Ren where
  f := fun x => match x with
    | 143 => 118
    | 217 => 125
    | 219 => 124
    | 224 => 127
    | 225 => 126
    | 266 => 129
    | 267 => 128
    | 314 => 130
    | n => n
  t := fun x => match x with
    | 46 => 89
    | 51 => 112
    | 146 => 113
    | n => n
  g := fun _ => 2
theorem idxLays : Go.Proofs.Lays.n143 Tryz.prog idxRen where
  mixed := by kernel_rfl
  f143 := by kernel_rfl
  f217 := by kernel_rfl
  f219 := by kernel_rfl
  f224 := by kernel_rfl
  f225 := by kernel_rfl
  f266 := by kernel_rfl
  f267 := by kernel_rfl
  f314 := by kernel_rfl
  t3 := Tryz.underlying3
  a3 := Tryz.isAgg3
  z3 := Tryz.sizeOf3
  v3 := Tryz.zeroValue3
  t4 := Tryz.underlying4
  a4 := Tryz.isAgg4
  z4 := Tryz.sizeOf4
  v4 := Tryz.zeroValue4
  t5 := Tryz.underlying5
  a5 := Tryz.isAgg5
  z5 := Tryz.sizeOf5
  v5 := Tryz.zeroValue5
  t9 := Tryz.underlying9
  a9 := Tryz.isAgg9
  z9 := Tryz.sizeOf9
  v9 := Tryz.zeroValue9
  t46 := Tryz.underlying89
  a46 := Tryz.isAgg89
  z46 := Tryz.sizeOf89
  v46 := Tryz.zeroValue89
  t51 := Tryz.underlying112
  a51 := Tryz.isAgg112
  z51 := Tryz.sizeOf112
  v51 := Tryz.zeroValue112
  t146 := Tryz.underlying113
  a146 := Tryz.isAgg113
  z146 := Tryz.sizeOf113
  v146 := Tryz.zeroValue113
  g1 := by kernel_rfl

theorem idx_in (F : Fence) (n : Nat) (hF : F = Fence.wide) (s : ByteArray) (w : World) :
    CallsIn F n Tryz.prog 118 #[.string s, .string ⟨#[45]⟩] w fun e w' => e = .returned (.int .i64 (Lib.indexByte s.data.toList 45)) ∧ w' = w := by
  subst hF
  exact callsIn_wide.2 (Any.strings_Index_one idxLays s 45 w)

/-- what is left behind a dash; what comes ahead of it. -/
theorem index_cuts : ∀ r : List UInt8, (Lib.indexByte r 45 = -1 ∧ cuts r = [r]) ∨ ∃ k : Nat, Lib.indexByte r 45 = k ∧ k < r.length ∧ cuts r = r.take k :: cuts (r.drop (k + 1))
  | [] => .inl ⟨rfl, rfl⟩
  | c :: r => by
    by_cases h : c = 45
    · subst h
      exact .inr ⟨0, by simp [Lib.indexByte], by simp, by simp [cuts]⟩
    · have hb : (c == (45 : UInt8)) = false := by simpa using h
      rcases index_cuts r with ⟨h1, h2⟩ | ⟨k, h1, h2, h3⟩
      · exact .inl ⟨by simp [Lib.indexByte, hb, h1], by simp [cuts, h, h2]⟩
      · refine .inr ⟨k + 1, ?_, by simp; omega, by simp [cuts, h, h3]⟩
        have e : ((k : Int) == -1) = false := by
          rw [Bool.eq_false_iff]; intro hh; have := eq_of_beq hh; omega
        simp [Lib.indexByte, hb, h1, e]

set_option maxHeartbeats 4000000 in
theorem iter_in (n : Nat) (F : Fence) (h117 : F.fn 117) (h118 : F.fn 118) (hro : F.round = none) (hn : 1 ≤ n)
    (hix : ∀ (s : ByteArray) (w : World), CallsIn F (n - 1) Tryz.prog 118 #[.string s, .string ⟨#[45]⟩] w fun e w' => e = .returned (.int .i64 (Lib.indexByte s.data.toList 45)) ∧ w' = w)
    (l b : Nat) (J : ByteArray → World → Prop) (Jx : World → Prop)
    (hcell : ∀ r W, J r W → r.size ≤ 100 ∧ W.cell? ⟨b, 0, none⟩ = some (.string r) ∧ W.frozen? ⟨b, 0, none⟩ = false ∧ W.cell? ⟨b + 1, 0, none⟩ = some (.string ⟨#[45]⟩) ∧ W.cell? ⟨b + 1 + 1, 0, none⟩ = some (.int .i64 0))
    (hY : ∀ r p W, J r W → p.size ≤ 100 → YieldAt F (n - 1) Tryz.prog l #[.string p] W fun e W' => (e = .returned (.bool true) ∧ partP p.data.toList = true ∧ J r W') ∨ (e = .returned (.bool false) ∧ partP p.data.toList = false ∧ Jx W'))
    (hset : ∀ r r' W, J r W → r'.size ≤ 100 → J r' (W.setCell ⟨b, 0, none⟩ (.string r')))
    (s : ByteArray) (W : World) (h0 : J s W) :
    CallsIn F n Tryz.prog 117 #[.func (.yield l) #[] #[], .pointer (some ⟨b + 1, 0, none⟩), .pointer (some ⟨b, 0, none⟩), .pointer (some ⟨b + 1 + 1, 0, none⟩)] W fun e W' => (∃ v, e = .returned v) ∧
      (((cuts s.data.toList).all partP = true ∧ ∃ r, J r W') ∨ ((cuts s.data.toList).all partP = false ∧ Jx W')) := by
  refine callsIn_of_wp Tryz.func117 rfl h117 ?_ hro
  simp only [Tryz.ntmps117, List.size_toArray, List.length_cons, List.length_nil, Nat.reduceAdd, Nat.reduceSub, Array.replicate_succ, Array.replicate_zero, List.push_toArray, List.append_toArray, List.nil_append, List.cons_append]
  obtain ⟨hs, c1, c1f, c2, c3⟩ := hcell _ _ h0
  gi_wp2
  clear c1 c1f c2 c3 hs
  gi_loopw [7] (fun _ wr => ∃ r : ByteArray, J r wr ∧ (cuts s.data.toList).all partP = (cuts r.data.toList).all partP)
    (fun _ wr => match wr.cell? ⟨b, 0, none⟩ with | some (.string r) => r.size | _ => 0)
  case atStart => exact ⟨s, h0, rfl⟩
  case round =>
    obtain ⟨r, hJ, hall⟩ := hrel
    obtain ⟨hs, c1, c1f, c2, c3⟩ := hcell _ _ hJ
    have hl : r.data.toList.length = r.size := by simp
    rcases index_cuts r.data.toList with ⟨hi, hcut⟩ | ⟨k, hi, hk, hcut⟩
    · obtain ⟨fn, tmps, assign, body, hy, hR⟩ := hY r r wr hJ hs
      gi_wp2_with (gi_at_call 118; refine (hix _ _).mono ?_; rintro e w1 ⟨rfl, e1⟩; subst e1; rw [hi])
      refine hR.mono ?_
      rw [hcut] at hall
      rintro e W3 (⟨rfl, hp, hJ3⟩ | ⟨rfl, hp, hJ3⟩)
      · gi_wp2
        go_end0
        exact ⟨⟨_, rfl⟩, .inl ⟨by rw [hall]; simpa using hp, _, hJ3⟩⟩
      · gi_wp2
        go_end0
        exact ⟨⟨_, rfl⟩, .inr ⟨by rw [hall]; simpa using hp, hJ3⟩⟩
    · have hx1 : (r.extract 0 k).data.toList = r.data.toList.take k := by simp
      have hx2 : (r.extract (k + 1) r.size).data.toList = r.data.toList.drop (k + 1) := by simp; rw [List.take_of_length_le (by simp)]
      obtain ⟨fn, tmps, assign, body, hy, hR⟩ := hY r (r.extract 0 k) wr hJ (by simp; omega)
      have hk0 : ¬ ((k : Int) < 0) := by omega
      gi_wp2_with (gi_at_call 118; refine (hix _ _).mono ?_; rintro e w1 ⟨rfl, e1⟩; subst e1; rw [hi])
      refine hR.mono ?_
      rw [hcut, List.all_cons] at hall
      rw [hx1] at hR
      rintro e W3 (⟨rfl, hp, hJ3⟩ | ⟨rfl, hp, hJ3⟩)
      · obtain ⟨hs3, d1, d1f, d2, d3⟩ := hcell _ _ hJ3
        gi_wp2
        go_roundw
        · exact ⟨_, hset _ _ _ hJ3 (by simp; omega), by rw [hall, ← hx1, hp, Bool.true_and, hx2]⟩
        · rw [World.cell?_setCell_same' _ _ _ (by rw [d1]; rfl), c1]; simp; omega
      · gi_wp2
        refine bodyPost_ret (results_none rfl _ _ _) rfl ?_
        refine ⟨⟨_, rfl⟩, .inr ⟨?_, hJ3⟩⟩
        rw [hall, ← hx1, hp]; rfl
end Go.Proofs.YtmjnfdjhaopeiaaGreatDoor.N0

namespace Go.Proofs.YtmjnfdjhaopeiaaGreatDoor.N0
open Go Go.Pvm Go.Proofs Go.RowKit Go.Shelf
attribute [local go_sem] Oper.semAt_some
set_option maxRecDepth 100000

def nAssign : Code := (Code.region 4 #[{ dst := some 3, op := Op.assign (Operand.tmp 13), type := 9, pos := "lex.go:38", after := #[], guard := none }] false)
def nBody : Code := (Code.block 1 ((Code.region 5 #[{ dst := some 14, op := Op.move (Operand.tmp 3), type := 9, pos := "lex.go:39", after := #[], guard := none }, { dst := some 15, op := Op.call { callee := Callee.value (Operand.func 87), args := #[Operand.tmp 14], argTypes := #[9] }, type := 4, pos := "lex.go:39", after := #[{ on := 0, ground := Ground.data }], guard := none }, { dst := some 16, op := Op.unOp UnOp.not 4 (Operand.tmp 15), type := 4, pos := "lex.go:39", after := #[{ on := 1, ground := Ground.data }], guard := none }] false).seq (Code.cond (Operand.tmp 16) ((Code.region 6 #[{ dst := none, op := Op.store 4 (Operand.tmp 2) (Operand.const (Value.bool false)), type := 0, pos := "lex.go:40", after := #[], guard := none }] false).seq Code.ret) Code.skip)))
def nRec (fn : FuncId) (s : ByteArray) (v5 v6 v9 v10 v12 : Value) (n0 : Nat) (st : LoopState) (pend : Option Code) : Loop :=
  { state := st, pending := pend, fn, tmps := #[.string s, undef, .pointer (some ⟨n0, 0, none⟩), undef, .string s, v5, v6, .string s, .int .i64 s.size, v9, v10, .string s, v12, undef, undef, undef, undef], params := #[13], assign := nAssign, body := nBody, defers := n0 + 4 }

structure At (rc : Loop) (n0 : Nat) (w : World) (res : Bool) (r : ByteArray) (W : World) : Prop where
  sz : r.size ≤ 100
  cr : W.cell? ⟨n0, 0, none⟩ = some (.bool res)
  fr : W.frozen? ⟨n0, 0, none⟩ = false
  cs : W.cell? ⟨n0 + 1, 0, none⟩ = some (.string r)
  fs : W.frozen? ⟨n0 + 1, 0, none⟩ = false
  cp : W.cell? ⟨n0 + 1 + 1, 0, none⟩ = some (.string ⟨#[45]⟩)
  cv : W.cell? ⟨n0 + 1 + 1 + 1, 0, none⟩ = some (.int .i64 0)
  L : W.heap[n0 + 5]? = some (.loop rc)
  K : W.heap[n0 + 4]? = some (.deferred (some []))
  B : Below n0 w W

theorem At.lt {rc n0 w res r W} (h : At rc n0 w res r W) : n0 + 5 < W.heap.size := (Array.getElem?_eq_some_iff.1 h.L).1
theorem At.below {rc n0 w res r W W'} (h : At rc n0 w res r W) (hb : Below W.heap.size W W') : At rc n0 w res r W' := by
  have := h.lt
  exact ⟨h.sz, (hb.cell (p := ⟨n0, 0, none⟩) (by show n0 < _; omega)).trans h.cr, (hb.frozen (p := ⟨n0, 0, none⟩) (by show n0 < _; omega)).trans h.fr,
    (hb.cell (p := ⟨n0 + 1, 0, none⟩) (by show n0 + 1 < _; omega)).trans h.cs, (hb.frozen (p := ⟨n0 + 1, 0, none⟩) (by show n0 + 1 < _; omega)).trans h.fs,
    (hb.cell (p := ⟨n0 + 1 + 1, 0, none⟩) (by show n0 + 1 + 1 < _; omega)).trans h.cp, (hb.cell (p := ⟨n0 + 1 + 1 + 1, 0, none⟩) (by show n0 + 1 + 1 + 1 < _; omega)).trans h.cv,
    (hb.block _ (by omega)).trans h.L, (hb.block _ (by omega)).trans h.K, h.B.trans (hb.mono (by omega))⟩
theorem At.putL {rc n0 w res r W} (h : At rc n0 w res r W) (rc' : Loop) : At rc' n0 w res r (W.putObj (n0 + 5) (.loop rc')) := by
  have ho : ∀ k, k ≠ n0 + 5 → (W.putObj (n0 + 5) (.loop rc')).heap[k]? = W.heap[k]? := fun k hk => World.putObj_heap_other hk
  refine ⟨h.sz, (World.cell?_of_block (ho n0 (by omega))).trans h.cr, (World.frozen?_of_block (ho n0 (by omega))).trans h.fr,
    (World.cell?_of_block (ho (n0 + 1) (by omega))).trans h.cs, (World.frozen?_of_block (ho (n0 + 1) (by omega))).trans h.fs,
    (World.cell?_of_block (ho (n0 + 1 + 1) (by omega))).trans h.cp, (World.cell?_of_block (ho (n0 + 1 + 1 + 1) (by omega))).trans h.cv,
    World.putObj_heap_same h.lt, (ho _ (by omega)).trans h.K, h.B.trans ((Below.refl n0 W).grown (grownBy_putObj' W _ _) (by have := h.lt; omega) (fun k e => by cases e; omega))⟩
theorem At.setR {rc n0 w res r W} (h : At rc n0 w res r W) (b : Bool) : At rc n0 w b r (W.setCell ⟨n0, 0, none⟩ (.bool b)) := by
  have ho : ∀ k, k ≠ n0 → (W.setCell ⟨n0, 0, none⟩ (.bool b)).heap[k]? = W.heap[k]? := fun k hk => Below.heap_setCell _ _ _ _ hk
  exact ⟨h.sz, World.cell?_setCell_same' _ _ _ (by rw [h.cr]; rfl), by rw [World.frozen?_setCell]; exact h.fr,
    (World.cell?_of_block (ho (n0 + 1) (by omega))).trans h.cs, (World.frozen?_of_block (ho (n0 + 1) (by omega))).trans h.fs,
    (World.cell?_of_block (ho (n0 + 1 + 1) (by omega))).trans h.cp, (World.cell?_of_block (ho (n0 + 1 + 1 + 1) (by omega))).trans h.cv,
    (ho _ (by omega)).trans h.L, (ho _ (by omega)).trans h.K, h.B.setCell (p := ⟨n0, 0, none⟩) (Nat.le_refl _) _⟩
theorem At.setS {rc n0 w res r W} (h : At rc n0 w res r W) (r' : ByteArray) (hr : r'.size ≤ 100) : At rc n0 w res r' (W.setCell ⟨n0 + 1, 0, none⟩ (.string r')) := by
  have ho : ∀ k, k ≠ n0 + 1 → (W.setCell ⟨n0 + 1, 0, none⟩ (.string r')).heap[k]? = W.heap[k]? := fun k hk => Below.heap_setCell _ _ _ _ hk
  exact ⟨hr, (World.cell?_of_block (ho n0 (by omega))).trans h.cr, (World.frozen?_of_block (ho n0 (by omega))).trans h.fr,
    World.cell?_setCell_same' _ _ _ (by rw [h.cs]; rfl), by rw [World.frozen?_setCell]; exact h.fs,
    (World.cell?_of_block (ho (n0 + 1 + 1) (by omega))).trans h.cp, (World.cell?_of_block (ho (n0 + 1 + 1 + 1) (by omega))).trans h.cv,
    (ho _ (by omega)).trans h.L, (ho _ (by omega)).trans h.K, h.B.setCell (p := ⟨n0 + 1, 0, none⟩) (by show n0 ≤ n0 + 1; omega) _⟩

set_option maxHeartbeats 2000000 in
theorem nYield (F : Fence) (m : Nat) (fn : FuncId) (hfn : F.fn fn) (h87 : F.fn 87)
    (hpart : ∀ (m : Nat) (p : ByteArray) (W : World), p.size ≤ 100 → CallsIn F m Tryz.prog 87 #[.string p] W fun e w' => e = .returned (.bool (partP p.data.toList)) ∧ Below W.heap.size W w')
    (hm : 1 ≤ m)
    (s : ByteArray) (v5 v6 v9 v10 v12 : Value) (n0 : Nat) (w : World) (r p : ByteArray) (W : World) (h : At (nRec fn s v5 v6 v9 v10 v12 n0 .ready none) n0 w false r W) (hp : p.size ≤ 100) :
    YieldAt F m Tryz.prog (n0 + 5) #[.string p] W fun e W' =>
      (e = .returned (.bool true) ∧ partP p.data.toList = true ∧ At (nRec fn s v5 v6 v9 v10 v12 n0 .ready none) n0 w false r W') ∨
      (e = .returned (.bool false) ∧ partP p.data.toList = false ∧ ∃ r, At (nRec fn s v5 v6 v9 v10 v12 n0 .done (some .ret)) n0 w false r W') := by
  refine ⟨fn, #[.string s, undef, .pointer (some ⟨n0, 0, none⟩), undef, .string s, v5, v6, .string s, .int .i64 s.size, v9, v10, .string s, v12, .string p, undef, undef, undef], nAssign, nBody, by simpa [nRec] using run_yield (P := Tryz.prog) (args := #[Value.string p]) h.L rfl, roundIn_of_wpIn hfn ?_⟩
  have hbr := run_beginRound (P := Tryz.prog) h.L rfl
  have h2 := h.putL { nRec fn s v5 v6 v9 v10 v12 n0 .ready none with state := .busy }
  obtain ⟨W2, hW2⟩ : ∃ W2, W.putObj (n0 + 5) (.loop { nRec fn s v5 v6 v9 v10 v12 n0 .ready none with state := .busy }) = W2 := ⟨_, rfl⟩
  rw [hW2] at hbr h2
  clear hW2
  unfold nAssign
  gi_wp2
  unfold nBody
  gi_wp2_with (gi_at_call 87; refine (CallsIn.inRound (n0 + 5) (hpart _ _ _ hp)).mono ?_; rintro e w3 ⟨rfl, hb⟩; have h3 := h2.below hb; have cr := h3.cr; have fr := h3.fr)
  · rename_i hq
    have hq' : partP p.data.toList = false := by simpa using hq
    have h4 := h3.setR false
    exact ⟨_, _, run_endRound (some .ret) h4.L, .inr ⟨rfl, hq', _, h4.putL _⟩⟩
  · rename_i hq
    have hq' : partP p.data.toList = true := by simpa using hq
    exact ⟨_, _, run_endRound none h3.L, .inl ⟨rfl, hq', h3.putL _⟩⟩

theorem cell_of_box_n {W : World} {B : Nat} {v : Value} {t : TypeId} (h : W.heap[B]? = some (.cells #[v] t (0, 0))) : W.cell? ⟨B, 0, none⟩ = some v ∧ W.frozen? ⟨B, 0, none⟩ = false := by
  constructor <;> simp [World.cell?, World.frozen?, h]
theorem cell_new_n (W : World) (v : Value) (t : TypeId) : (W.alloc (.cells #[v] t)).cell? ⟨W.heap.size, 0, none⟩ = some v ∧ (W.alloc (.cells #[v] t)).frozen? ⟨W.heap.size, 0, none⟩ = false :=
  cell_of_box_n (World.alloc_heap_new W _)
theorem nameOk_no (s : ByteArray) (h : s.size = 0 ∨ 100 < s.size) : nameOk s = false := by
  unfold nameOk
  rcases h with h | h
  · rw [decide_eq_false (by omega)]; rfl
  · rw [decide_eq_false (p := s.size ≤ 100) (by omega)]; simp
theorem at_start (s : ByteArray) (w : World) (rc : Loop) (hs : s.size ≤ 100) :
    At rc w.heap.size w false s (((splitW s (w.alloc (.cells #[.bool false] 4))).alloc (.deferred (some []))).alloc (.loop rc)) := by
  have hB : Below w.heap.size w (((splitW s (w.alloc (.cells #[.bool false] 4))).alloc (.deferred (some []))).alloc (.loop rc)) := by
    unfold splitW
    exact ((((((Below.refl _ w).alloc (Nat.le_refl _) _).alloc (by simp) _).alloc (by simp; omega) _).alloc (by simp; omega) _).alloc (by simp; omega) _).alloc (by simp; omega) _
  have hh : (((splitW s (w.alloc (.cells #[.bool false] 4))).alloc (.deferred (some []))).alloc (.loop rc)).heap =
    (((((w.heap.push (.cells #[.bool false] 4)).push (.cells #[.string s] 9)).push (.cells #[.string ⟨#[45]⟩] 9)).push (.cells #[.int .i64 0] 3)).push (.deferred (some []))).push (.loop rc) := rfl
  generalize (((splitW s (w.alloc (.cells #[.bool false] 4))).alloc (.deferred (some []))).alloc (.loop rc)) = W at hB hh
  have hh' : W.heap = w.heap ++ #[.cells #[.bool false] 4, .cells #[.string s] 9, .cells #[.string ⟨#[45]⟩] 9, .cells #[.int .i64 0] 3, .deferred (some []), .loop rc] := by
    rw [hh]; apply Array.ext'; simp
  have key : ∀ (k : Nat) (o : Obj), (#[Obj.cells #[.bool false] 4, .cells #[.string s] 9, .cells #[.string ⟨#[45]⟩] 9, .cells #[.int .i64 0] 3, .deferred (some []), .loop rc] : Array Obj)[k]? = some o → W.heap[w.heap.size + k]? = some o := fun k o h => by
    rw [hh', Array.getElem?_append_right (by omega), Nat.add_sub_cancel_left, h]
  have b0 := key 0 _ rfl
  have b1 := key 1 _ rfl
  have b2 := key 2 _ rfl
  have b3 := key 3 _ rfl
  have b4 := key 4 _ rfl
  have b5 := key 5 _ rfl
  exact ⟨hs, (cell_of_box_n b0).1, (cell_of_box_n b0).2, (cell_of_box_n b1).1, (cell_of_box_n b1).2, (cell_of_box_n b2).1, (cell_of_box_n b3).1, b5, b4, hB⟩

set_option maxHeartbeats 4000000 in
theorem name_in (F : Fence) (n : Nat) (h68 : F.fn 68) (h86 : F.fn 86) (h103 : F.fn 103) (h117 : F.fn 117) (h118 : F.fn 118) (h87 : F.fn 87) (hro : F.round = none) (hn : 4 ≤ n)
    (hpart : ∀ (m : Nat) (p : ByteArray) (W : World), p.size ≤ 100 → CallsIn F m Tryz.prog 87 #[.string p] W fun e w' => e = .returned (.bool (partP p.data.toList)) ∧ Below W.heap.size W w')
    (hix : ∀ (m : Nat) (s : ByteArray) (w : World), CallsIn F m Tryz.prog 118 #[.string s, .string ⟨#[45]⟩] w fun e w' => e = .returned (.int .i64 (Lib.indexByte s.data.toList 45)) ∧ w' = w)
    (s : ByteArray) (w : World) :
    CallsIn F n Tryz.prog 68 #[.string s] w fun e w' => e = .returned (.bool (nameOk s)) ∧ Below w.heap.size w w' := by
  have h1 : 1 ≤ n := by omega
  refine callsIn_of_wp_marks Tryz.func68 rfl h68 ?_ hro
  simp only [Tryz.ntmps68, List.size_toArray, List.length_cons, List.length_nil, Nat.reduceAdd, Nat.reduceSub, Array.replicate_succ, Array.replicate_zero, List.push_toArray, List.append_toArray, List.nil_append, List.cons_append]
  gi_wp2_with (gi_at_call 86; refine (split_in F (n - 1) h86 h103 hro (by omega) _ _).mono ?_; rintro e w' ⟨rfl, rfl⟩)
  · rename_i hz
    have hc := cell_new_n w (.bool false) 4
    refine ⟨.bool false, ?_, ?_, (Below.refl _ w).alloc (Nat.le_refl _) _⟩
    · simp [results, Tryz.f68, go_sem, hc.1]
    · rw [nameOk_no s (.inl (by rw [← ByteArray.size_data, ← Array.length_toList, ← Lib.toList_data, hz]; rfl))]
  · rename_i hz
    have hc := cell_new_n w (.bool false) 4
    refine ⟨.bool false, ?_, ?_, (Below.refl _ w).alloc (Nat.le_refl _) _⟩
    · simp [results, Tryz.f68, go_sem, hc.1]
    · rw [nameOk_no s ?_]
      rcases hz with hz | hz
      · exact .inl (by rw [← ByteArray.size_data, ← Array.length_toList, ← Lib.toList_data, List.isEmpty_iff.1 hz]; rfl)
      · exact .inr (by omega)
  have hne : ¬ s.toList = [] := by assumption
  have hsz : s.toList.isEmpty = false ∧ (s.size : Int) ≤ 100 := by assumption
  have hs4 : (splitW s (w.alloc (.cells #[.bool false] 4))).heap.size = w.heap.size + 4 := by simp only [splitW, World.size_alloc]
  have hs1 : 1 ≤ s.size := by
    rcases Nat.eq_zero_or_pos s.size with h0 | h0
    · exact absurd (by rw [Lib.toList_data]; exact List.length_eq_zero_iff.1 (by rw [Array.length_toList, ByteArray.size_data]; exact h0)) hne
    · exact h0
  have hs2 : s.size ≤ 100 := by have := hsz.2; omega
  refine wpIn_rangeFunc ?_
  intro fn hfn
  rw [hro]
  obtain ⟨rec, hrec⟩ : ∃ rec : LoopState → Option Code → Loop, rec = nRec fn s (.bool false) (.bool false) (.bool (decide ((100 : Int) < s.size))) (.bool (decide ((100 : Int) < s.size))) (splitV (w.alloc (.cells #[.bool false] 4))) w.heap.size := ⟨_, rfl⟩
  obtain ⟨W1, hW1⟩ : ∃ W1, ((splitW s (w.alloc (.cells #[.bool false] 4))).alloc (.deferred (some []))).alloc (.loop (rec .ready none)) = W1 := ⟨_, rfl⟩
  have hA : At (rec .ready none) w.heap.size w false s W1 := by rw [← hW1]; exact at_start s w _ hs2
  refine ⟨w.heap.size + 5, [{ target := .collected (w.heap.size + 4), args := #[] }], W1, { target := .fn (.func 117) #[.pointer (some ⟨w.heap.size + 1 + 1, 0, none⟩), .pointer (some ⟨w.heap.size + 1, 0, none⟩), .pointer (some ⟨w.heap.size + 1 + 1 + 1, 0, none⟩)], args := #[.func (.yield (w.heap.size + 5)) #[] #[]] }, W1, 117,
    #[.func (.yield (w.heap.size + 5)) #[] #[], .pointer (some ⟨w.heap.size + 1 + 1, 0, none⟩), .pointer (some ⟨w.heap.size + 1, 0, none⟩), .pointer (some ⟨w.heap.size + 1 + 1 + 1, 0, none⟩)], W1, ?_, ?_, ?_, ?_, fun _ => h1, ?_⟩
  · rw [← hW1, hrec]; refine (run_enterLoop_outer _ _ _ _ _).trans ?_; rw [hs4]; rfl
  · simp [resolve, go_sem, splitV]
  · intro f' hf'; simp [Target.leads] at hf'; subst hf'; exact h117
  · simp [invoke, go_sem]
  · refine (iter_in (n - 1) F h117 h118 hro (by omega) (hix _) (w.heap.size + 5) (w.heap.size + 1) (fun r W => At (rec .ready none) w.heap.size w false r W) (fun W => ∃ r, At (rec .done (some .ret)) w.heap.size w false r W)
      (fun r W h => ⟨h.sz, h.cs, h.fs, h.cp, h.cv⟩)
      (fun r p W h hp => by rw [hrec] at h ⊢; exact nYield F (n - 1 - 1) fn hfn h87 hpart (by omega) s _ _ _ _ _ w.heap.size w r p W h hp)
      (fun r r' W h hr => h.setS r' hr) s W1 hA).mono ?_
    rintro e W2 ⟨⟨v, rfl⟩, (⟨hall, r, h2⟩ | ⟨hall, r, h2⟩)⟩
    · have hend := run_endLoop (P := Tryz.prog) h2.L (by rw [hrec]; simp [nRec])
      have h3 := h2.putL { rec .ready none with state := .exhausted }
      refine ⟨none, W2.putObj (w.heap.size + 5) (.loop { rec .ready none with state := .exhausted }), hend.trans (by rw [hrec]; rfl), ?_⟩
      have cr := h3.cr
      have fr := h3.fr
      generalize W2.putObj (w.heap.size + 5) (.loop { rec .ready none with state := .exhausted }) = W3 at h3 cr fr ⊢
      gi_wp2
      have h4 := h3.setR true
      refine ⟨by simp, .inl ⟨_, _, rfl, run_takeDeferred h4.K, ?_⟩⟩
      refine ⟨.bool true, ?_, by rw [nameOk_cuts s hs1 hs2, hall], ?_⟩
      · have hc5 := cell_kept h4.cr (grownBy_putObj' _ (w.heap.size + 4) (.deferred none)) (fun r e => by cases e; exact ⟨_, h4.K, rfl⟩)
        simp [results, Tryz.f68, go_sem, hc5]
      · exact h4.B.trans ((Below.refl _ _).grown (grownBy_putObj' _ _ _) (by have := h4.lt; omega) (fun k e => by cases e; omega))
    · have hend := run_endLoop (P := Tryz.prog) h2.L (by rw [hrec]; simp [nRec])
      have h3 := h2.putL { rec .done (some .ret) with state := .exhausted }
      refine ⟨some .ret, W2.putObj (w.heap.size + 5) (.loop { rec .done (some .ret) with state := .exhausted }), hend.trans (by rw [hrec]; rfl), ?_⟩
      generalize W2.putObj (w.heap.size + 5) (.loop { rec .done (some .ret) with state := .exhausted }) = W3 at h3 ⊢
      gi_wp2
      refine ⟨by simp, .inl ⟨_, _, rfl, run_takeDeferred h3.K, ?_⟩⟩
      refine ⟨.bool false, ?_, by rw [nameOk_cuts s hs1 hs2, hall], ?_⟩
      · have hc5 := cell_kept h3.cr (grownBy_putObj' _ (w.heap.size + 4) (.deferred none)) (fun r e => by cases e; exact ⟨_, h3.K, rfl⟩)
        simp [results, Tryz.f68, go_sem, hc5]
      · exact h3.B.trans ((Below.refl _ _).grown (grownBy_putObj' _ _ _) (by have := h3.lt; omega) (fun k e => by cases e; omega))

theorem name_calls (s : ByteArray) (w : World) : Calls Tryz.prog 68 #[.string s] w fun e w' => e = .returned (.bool (nameOk s)) ∧ Below w.heap.size w w' :=
  callsIn_wide.1 (name_in Fence.wide 9 trivial trivial trivial trivial trivial trivial rfl (by omega) (fun _ p W hp => callsIn_wide.2 (part_calls p hp W)) (fun m s w => idx_in _ m rfl s w) s w)
end Go.Proofs.YtmjnfdjhaopeiaaGreatDoor.N0
