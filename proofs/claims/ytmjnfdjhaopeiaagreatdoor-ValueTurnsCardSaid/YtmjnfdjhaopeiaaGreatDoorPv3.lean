/-
  A part of the proof: Pv3.
-/
import Derived.Test.YtmjnfdjhaopeiaaGreatDoorPv2
/-
  PVM, part 3: the interpreter.
-/
namespace Go.Pvm
open Go

/-- What is fixed: the program; what is known of package variables; which slots of a function are its own locals, which live on over a loop's rounds; how a function is called; functions that are told, not run. -/
structure Cfg where
  P : Program
  glob : Nat → Option (List PV)
  priv : Nat → Nat → Bool
  keep : Nat → List Nat
  full : Nat → Bool
  intr : Nat → Option (List PV → Store → Option (PV × Store))

/-- Locals and boxes. -/
structure LS where
  L : List (Nat × List PV)
  S : Store

structure Fr where
  regs : List (Nat × RV)
  st : LS
  nt : Nat

def Fr.get (F : Fr) (t : Nat) : RV := (look F.regs t).getD (.v .any)
def Fr.set (F : Fr) (d : Nat) (p : RV) : Fr := { F with regs := (d, p) :: F.regs }
def Fr.seto (F : Fr) (d : Option Nat) (p : RV) : Fr := match d with | some d => F.set d p | none => F

def ofCell : Value → PV
  | .slice none 0 0 => .sl true 0 []
  | v => .s v
def ofVal : Value → PV
  | .agg cs => .agg (cs.toList.map ofCell)
  | v => ofCell v

def RV.pv : RV → PV
  | .v p => p
  | .loc _ _ => .any

def Fr.ev (C : Cfg) (F : Fr) : Operand → RV
  | .tmp t => F.get t
  | .const v => .v (ofVal v)
  | .global g => match C.glob g with | some cs => .v (.cel cs 0) | none => .v .any
  | .func f => .v (.fn (.func f) [] [])

def size? (P : Program) (t : TypeId) : Option Nat := (P.info? t).map (·.size)
def agg? (P : Program) (t : TypeId) : Option Bool :=
  match P.underlying t with
  | some (.struct _) => some true
  | some (.array _ _) => some true
  | some _ => some false
  | none => none

/-- The cells that an address leads to, and where among them. -/
def addrCells (T : LS) : RV → Option (List PV × Nat)
  | .loc d off => (look T.L d).map fun cs => (cs, off)
  | .v (.cel cs off) => some (cs, off)
  | .v (.ptr b ver off) => match T.S.get b with
    | some bx => if bx.ver = ver then some (bx.cs, off) else none
    | none => none
  | _ => none

def loadO (P : Program) (T : LS) (t : TypeId) (p : RV) : Option PV :=
  match addrCells T p, agg? P t, size? P t with
  | some (cs, off), some true, some n => if off + n ≤ cs.length then some (.agg ((cs.drop off).take n)) else none
  | some (cs, off), some false, _ => cs[off]?
  | _, _, _ => none

def oneC : PV → Bool
  | .s v => v.oneCell'
  | .any => false
  | .agg _ => false
  | .tup _ => false
  | _ => true

def cellsO : PV → Option (List PV)
  | .agg cs => if cs.all oneC then some cs else none
  | p => if oneC p then some [p] else none

def splice (cs : List PV) (off : Nat) (ps : List PV) : List PV := cs.take off ++ ps ++ cs.drop (off + ps.length)

def storeO (P : Program) (T : LS) (t : TypeId) (p : RV) (x : PV) : Option LS :=
  match cellsO x, size? P t with
  | some ps, some n =>
    if ps.length = n then
      match p with
      | .loc d off => match look T.L d with
        | some cs => if off + n ≤ cs.length then some { T with L := put T.L d (splice cs off ps) } else none
        | none => none
      | .v (.ptr b ver off) => match T.S.get b with
        | some bx => if bx.ver = ver ∧ off + n ≤ bx.cs.length then some { T with S := T.S.put b { bx with cs := splice bx.cs off ps } } else none
        | none => none
      | _ => none
    else none
  | _, _ => none

/-- A new variable: a local of the frame, or a box. -/
def newO (C : Cfg) (f : Nat) (T : LS) (d : Option Nat) (cells : List PV) : Option (RV × LS × Option Nat) :=
  match d with
  | some d => if C.priv f d then some (.loc d 0, { T with L := put T.L d cells }, some d)
    else some (.v (.ptr T.S.next 0 0), { T with S := T.S.add ⟨0, 1, cells⟩ }, none)
  | none => none

/-- Operators on plain values. -/
def intB (op : BinOp) (k : IntKind) (a b : Int) : Option Value :=
  match op with
  | .add => some (.int k (k.wrap (a + b)))
  | .sub => some (.int k (k.wrap (a - b)))
  | .mul => some (.int k (k.wrap (a * b)))
  | .quo => if b = 0 then none else some (.int k (k.wrap (a.tdiv b)))
  | .rem => if b = 0 then none else some (.int k (a.tmod b))
  | .and => some (.int k (bits .and k a b))
  | .or => some (.int k (bits .or k a b))
  | .xor => some (.int k (bits .xor k a b))
  | .andNot => some (.int k (bits .andNot k a b))
  | .eql => some (.bool (a == b))
  | .neq => some (.bool (a != b))
  | .lss => some (.bool (a < b))
  | .leq => some (.bool (a ≤ b))
  | .gtr => some (.bool (a > b))
  | .geq => some (.bool (a ≥ b))
  | _ => none

def strB (op : BinOp) (a b : ByteArray) : Option Value :=
  match op with
  | .add => if a.size + b.size ≤ 9223372036854775807 then some (.string (a ++ b)) else none
  | .eql => some (.bool (a.toList == b.toList))
  | .neq => some (.bool !(a.toList == b.toList))
  | _ => none

def binS (op : BinOp) (x y : Value) : Option Value :=
  match x, y with
  | .int k a, .int k' b =>
    match op with
    | .shl => if b < 0 then none else some (.int k (k.wrap (a * 2 ^ min b.toNat k.bits)))
    | .shr => if b < 0 then none else some (.int k (a.fdiv (2 ^ min b.toNat k.bits)))
    | op => if k = k' then intB op k a b else none
  | .string a, .string b => strB op a b
  | _, _ => none

def binO (P : Program) (op : BinOp) (t : TypeId) (x y : PV) : Option PV :=
  match x, y with
  | .s (.bool a), .s (.bool b) => match op, P.underlying t with
    | .eql, some .bool => some (.s (.bool (a == b)))
    | .neq, some .bool => some (.s (.bool !(a == b)))
    | _, _ => none
  | .s a, .s b => (binS op a b).map .s
  | _, _ => none

def unO (op : UnOp) (x : PV) : Option PV :=
  match op, x with
  | .not, .s (.bool b) => some (.s (.bool !b))
  | .neg, .s (.int k n) => some (.s (.int k (k.wrap (0 - n))))
  | .xor, .s (.int k n) => some (.s (.int k (bits .xor k (if k.signed then -1 else k.max) n)))
  | _, _ => none

def byteO : PV → Option Int
  | .s (.int .u8 n) => some n
  | _ => none

def pushBytes (ns : List Int) : ByteArray := ns.foldl (fun r n => r.push (UInt8.ofNat n.toNat)) ByteArray.empty

def boundO (x : Option PV) (dflt most : Nat) : Option Nat :=
  match x with
  | none => some dflt
  | some (.s (.int _ i)) => if 0 ≤ i ∧ i ≤ most then some i.toNat else none
  | _ => none

def sliceO (P : Program) (T : LS) (t : TypeId) (x : PV) (lo hi mx : Option PV) : Option PV :=
  match x, P.underlying t with
  | .s (.string a), some .string =>
    match mx, boundO hi a.size a.size with
    | none, some h => match boundO lo 0 h with
      | some l => some (.s (.string (a.extract l h)))
      | none => none
    | _, _ => none
  | .sl full n cs, some (.slice e) =>
    match boundO mx n n, size? P e with
    | some m, some sz => match boundO hi n m with
      | some h => match boundO lo 0 h with
        | some l => if n * sz = cs.length ∧ 0 < sz then
            (if mx.isSome then some (.sl (h == m) (h - l) ((cs.drop (l * sz)).take ((h - l) * sz)))
             else some (.sl (full && h == n) (h - l) ((cs.drop (l * sz)).take ((h - l) * sz)))) else none
        | none => none
      | none => none
    | _, _ => none
  | .bsl b ver off n, some (.slice e) =>
    match mx, boundO hi n n, size? P e with
    | none, some h, some sz => match boundO lo 0 h with
      | some l => match T.S.get b with
        | some bx => if bx.ver = ver ∧ bx.esz = sz ∧ (l < h ∨ l = 0) then some (.bsl b ver (off + l * sz) (h - l)) else none
        | none => none
      | none => none
    | _, _, _ => none
  | .ptr b ver off, some (.array n e) =>
    match mx, boundO hi n n, size? P e with
    | none, some h, some sz => match boundO lo 0 h with
      | some l => match T.S.get b with
        | some bx => if bx.ver = ver ∧ bx.esz = sz ∧ (l < h ∨ l = 0) ∧ off + n * sz ≤ bx.cs.length then some (.bsl b ver (off + l * sz) (h - l)) else none
        | none => none
      | none => none
    | _, _, _ => none
  | _, _ => none

def field? (P : Program) (t : TypeId) (i : Nat) : Option Field :=
  match P.underlying t with
  | some (.struct fs) => fs[i]?
  | _ => none

def shift (T : LS) (p : RV) (n : Nat) : Option RV :=
  match p with
  | .loc d off => some (.loc d (off + n))
  | .v (.cel cs off) => some (.v (.cel cs (off + n)))
  | .v (.ptr b ver off) => match T.S.get b with
    | some bx => if bx.ver = ver then some (.v (.ptr b ver (off + n))) else none
    | none => none
  | _ => none

def indexAddrO (P : Program) (T : LS) (t : TypeId) (x : RV) (i : PV) : Option RV :=
  match i, P.underlying t with
  | .s (.int _ i), some (.slice e) =>
    match x, size? P e with
    | .v (.sl _ n cs), some sz => if 0 ≤ i ∧ i < n ∧ i.toNat * sz < cs.length then some (.v (.cel cs (i.toNat * sz))) else none
    | .v (.bsl b ver off n), some sz => match T.S.get b with
      | some bx => if bx.ver = ver ∧ 0 ≤ i ∧ i < n ∧ bx.esz = sz then some (.v (.ptr b ver (off + i.toNat * sz))) else none
      | none => none
    | _, _ => none
  | .s (.int _ i), some (.array n e) =>
    match size? P e with
    | some sz => if 0 ≤ i ∧ i < n then shift T x (i.toNat * sz) else none
    | none => none
  | _, _ => none

def partO (P : Program) (t : TypeId) (cs : List PV) (off : Nat) : Option PV :=
  match agg? P t, size? P t with
  | some true, some n => if off + n ≤ cs.length then some (.agg ((cs.drop off).take n)) else none
  | some false, _ => cs[off]?
  | _, _ => none

def indexO (P : Program) (t : TypeId) (x i : PV) : Option PV :=
  match i, x, P.underlying t with
  | .s (.int _ i), .s (.string a), some .string => match (if 0 ≤ i then a[i.toNat]? else none) with
    | some b => some (.s (.int .u8 b.toNat))
    | none => none
  | .s (.int _ i), .agg cs, some (.array n e) => match size? P e with
    | some sz => if 0 ≤ i ∧ i < n then partO P e cs (i.toNat * sz) else none
    | none => none
  | _, _, _ => none

/-- Parts are filled in. -/
def fillO (place : Nat → Option (Nat × Nat)) (cells : List PV) : List (Nat × PV) → Option (List PV)
  | [] => some cells
  | (i, p) :: r => match place i, cellsO p with
    | some (off, sz), some ps => if ps.length = sz ∧ off + sz ≤ cells.length then fillO place (splice cells off ps) r else none
    | _, _ => none

def zeros (P : Program) (t : TypeId) : Option (List PV) := ((P.info? t).bind (·.zero)).map fun z => z.cells.toList.map ofCell

def rep {α : Type} : Nat → List α → List α
  | 0, _ => []
  | n + 1, l => l ++ rep n l

def buildO (P : Program) (t : TypeId) (ps : List (Nat × PV)) : Option PV :=
  match P.underlying t, zeros P t with
  | some (.struct fs), some z => match fs.toList.mapM (fun f => (P.info? f.type).map fun i => (f.offset, i.size)) with
    | some places => (fillO (fun i => places[i]?) z ps).map .agg
    | none => none
  | some (.array _ e), some z => match size? P e with
    | some sz => (fillO (fun i => some (i * sz, sz)) z ps).map .agg
    | none => none
  | _, _ => none

def buildSliceO (P : Program) (t : TypeId) (n : Nat) (ps : List (Nat × PV)) : Option PV :=
  match P.underlying t with
  | some (.slice e) => match size? P e, zeros P e with
    | some sz, some z => if n * sz ≤ 16777216 ∧ z.length = sz ∧ 0 < sz then
        match fillO (fun i => some (i * sz, sz)) (rep n z) ps with
        | some cs => if pureL? cs then some (.sl true n cs) else none
        | none => none
      else none
    | _, _ => none
  | _ => none

def makeSliceO (P : Program) (T : LS) (t : TypeId) (n c : PV) : Option (PV × LS) :=
  match P.underlying t, n, c with
  | some (.slice e), .s (.int _ n), .s (.int _ c) =>
    match P.info? e, zeros P e with
    | some i, some z => if 0 ≤ n ∧ n ≤ c ∧ c * i.bytes ≤ 140737488355328 ∧ c ≤ 140737488355328 ∧ z.length = i.size ∧ 0 < i.size then
        some (.bsl T.S.next 0 0 n.toNat, { T with S := T.S.add ⟨0, i.size, rep n.toNat z⟩ }) else none
    | _, _ => none
  | _, _, _ => none

/-- What is appended: cells, and how many elements they are. -/
def srcO (T : LS) (sz : Nat) : PV → Option (List PV × Nat)
  | .sl _ n cs => if cs.length = n * sz then some (cs, n) else none
  | .bsl b ver off n => match T.S.get b with
    | some bx => if bx.ver = ver ∧ off + n * sz ≤ bx.cs.length then some ((bx.cs.drop off).take (n * sz), n) else none
    | none => none
  | .s (.string a) => if sz = 1 then some (a.data.toList.map fun b => .s (.int .u8 b.toNat), a.size) else none
  | _ => none

def plain? : PV → Bool
  | .s _ => true
  | _ => false

def convO (P : Program) (T : LS) (src dst : TypeId) (x : PV) : Option PV :=
  match P.underlying src, P.underlying dst with
  | some (.slice e), some .string => if plain? x then none else match P.underlying e, srcO T 1 x with
    | some (.int .u8), some (cs, _) => (cs.mapM byteO).map fun ns => .s (.string (pushBytes ns))
    | _, _ => none
  | some _, some d => match x, d with
    | .s (.int _ n), .int k => some (.s (.int k (k.wrap n)))
    | .s (.string a), .string => some (.s (.string a))
    | .s (.string a), .slice e => match P.underlying e with
      | some (.int .u8) => some (.sl false a.size (a.data.toList.map fun b => .s (.int .u8 b.toNat)))
      | _ => none
    | _, _ => none
  | _, _ => none

def appendO (P : Program) (T : LS) (t : TypeId) (s x : PV) : Option (PV × LS) :=
  match P.underlying t with
  | some (.slice e) => match P.info? e with
    | some i => match srcO T i.size x with
      | some (ps, m) =>
        if 0 < i.size ∧ ps.all oneC then
          match s with
          | .sl true n cs => if cs.length = n * i.size ∧ cs.all oneC ∧ (n + m) * i.bytes ≤ 140737488355328 ∧ n + m ≤ 140737488355328 ∧ (n = 0 ∨ 0 < m) ∧ (i.zero.any fun z => z.cells.size == i.size) = true then
              some (.bsl T.S.next 0 0 (n + m), { T with S := T.S.add ⟨0, i.size, cs ++ ps⟩ }) else none
          | .bsl b ver off n => match T.S.get b with
            | some bx => if bx.ver = ver ∧ off = 0 ∧ bx.esz = i.size ∧ n * i.size ≤ bx.cs.length ∧ (bx.cs.take (n * i.size)).all oneC ∧ (n + m) * i.bytes ≤ 140737488355328 ∧ n + m ≤ 140737488355328 ∧ (i.zero.any fun z => z.cells.size == i.size) = true then
                some (.bsl b (ver + 1) 0 (n + m), { T with S := T.S.put b ⟨ver + 1, i.size, bx.cs.take (n * i.size) ++ ps⟩ }) else none
            | none => none
          | _ => none
        else none
      | none => none
    | none => none
  | _ => none

def copyO (P : Program) (T : LS) (t : TypeId) (d x : PV) : Option (PV × LS) :=
  match P.underlying t with
  | some (.slice e) => match size? P e with
    | some sz => match srcO T sz x, d with
      | some (ps, m), .bsl b ver off n => match T.S.get b with
        | some bx => if bx.ver = ver ∧ bx.esz = sz ∧ 0 < sz ∧ off + n * sz ≤ bx.cs.length ∧ ps.all oneC then
            some (.s (.int .i64 (min m n : Nat)), { T with S := T.S.put b { bx with cs := splice bx.cs off (ps.take (min m n * sz)) } }) else none
        | none => none
      | _, _ => none
    | none => none
  | _ => none

def lenO (P : Program) (t : TypeId) (x : PV) : Option PV :=
  match x, P.underlying t with
  | .s (.string a), some .string => some (.s (.int .i64 a.size))
  | .sl _ n _, some (.slice _) => some (.s (.int .i64 n))
  | .bsl _ _ _ n, some (.slice _) => some (.s (.int .i64 n))
  | _, _ => none

def minO (mx : Bool) : List PV → Option PV
  | [.s (.int k a), .s (.int _ b)] => some (.s (.int k (if mx then (if b > a then b else a) else (if b < a then b else a))))
  | _ => none

/-- An operation: its value, the locals and boxes behind it, and a local that is laid anew. -/
def evalOp (C : Cfg) (call : FuncId → List PV → Store → Option (PV × Store)) (f : FuncId) (o : Oper) (ρ : Operand → RV) (T : LS) : Option (RV × LS × Option Nat) :=
  let P := C.P
  let q (x : Operand) : PV := (ρ x).pv
  let val (x : Option PV) : Option (RV × LS × Option Nat) := x.map fun p => (.v p, T, none)
  let both (x : Option (PV × LS)) : Option (RV × LS × Option Nat) := x.map fun p => (.v p.1, p.2, none)
  match o.op with
  | .move x | .assign x => some (ρ x, T, none)
  | .pick c a b => match q c with
    | .s (.bool t) => some (if t then ρ a else ρ b, T, none)
    | _ => none
  | .alloc e => match zeros P e with
    | some z => newO C f T o.dst z
    | none => none
  | .box _ x => match cellsO (q x) with
    | some cs => newO C f T o.dst cs
    | none => none
  | .build t ps => val (buildO P t (ps.toList.map fun (i, x) => (i, q x)))
  | .buildSlice t n ps => val (buildSliceO P t n (ps.toList.map fun (i, x) => (i, q x)))
  | .load t a => val (loadO P T t (ρ a))
  | .store t a x => (storeO P T t (ρ a) (q x)).map fun T' => (.v .any, T', none)
  | .nilCheck x => match ρ x with
    | .loc d off => some (.loc d off, T, none)
    | .v (.cel cs off) => some (.v (.cel cs off), T, none)
    | .v (.ptr b ver off) => if (T.S.get b).any (fun bx => bx.ver == ver) then some (.v (.ptr b ver off), T, none) else none
    | .v (.fn (.func g) x y) => some (.v (.fn (.func g) x y), T, none)
    | _ => none
  | .binOp op t x y _ => val (binO P op t (q x) (q y))
  | .unOp op _ x => val (unO op (q x))
  | .convert src dst x => val (convO P T src dst (q x))
  | .makeInterface t x => match P.underlying t with
    | some (.interface _) => none
    | some _ => val (some (.iface t (q x)))
    | none => none
  | .makeFunc fn first captured => val (some (.fn fn (first.toList.map q) (captured.toList.map q)))
  | .makeSlice t n c => both (makeSliceO P T t (q n) (q c))
  | .slice t x lo hi mx => if mx.isSome && hi.isNone then none else val (sliceO P T t (q x) (lo.map q) (hi.map q) (mx.map q))
  | .fieldAddr t x i => match field? P t i with
    | some fd => match size? P fd.type with
      | some (_ + 1) => (shift T (ρ x) fd.offset).map fun p => (p, T, none)
      | _ => none
    | none => none
  | .field t x i => match field? P t i, q x with
    | some fd, .agg cs => val (partO P fd.type cs fd.offset)
    | _, _ => none
  | .indexAddr t x i => (indexAddrO P T t (ρ x) (q i)).map fun p => (p, T, none)
  | .index t x i => val (indexO P t (q x) (q i))
  | .extract x i => match q x with
    | .tup vs => val vs[i]?
    | _ => none
  | .call c => match c.callee with
    | .builtin .len => match c.args.toList, c.argTypes.toList with
      | [x], t :: _ => val (lenO P t (q x))
      | _, _ => none
    | .builtin .append => match c.args.toList, c.argTypes.toList with
      | [s, x], t :: u :: _ => match P.underlying u with
        | some (.slice _) => both (appendO P T t (q s) (q x))
        | some .string => both (appendO P T t (q s) (q x))
        | _ => none
      | _, _ => none
    | .builtin .copy => match c.args.toList, c.argTypes.toList with
      | [d, x], t :: _ => both (copyO P T t (q d) (q x))
      | _, _ => none
    | .builtin .min => val (minO false (c.args.toList.map q))
    | .builtin .max => val (minO true (c.args.toList.map q))
    | .value g => match q g with
      | .fn (.func g) first captured => (call g (first ++ c.args.toList.map q ++ captured) T.S).map fun (r, S') => (.v r, { T with S := S' }, none)
      | _ => none
    | _ => none
  | _ => none

inductive X where
  | normal
  | exit (id : Nat)
  | ret

/-- A local that is laid anew: the elder pointers to it tell nothing more. -/
def scrubR (d : Nat) : RV → RV
  | .loc d' off => if d' = d then .v .any else .loc d' off
  | .v p => .v p
def scrub (d : Nat) (regs : List (Nat × RV)) : List (Nat × RV) := regs.map fun x => (x.1, scrubR d x.2)

def Fr.after (F : Fr) (dst : Option Nat) (r : RV) (T : LS) (sc : Option Nat) : Fr :=
  ({ F with regs := (match sc with | some d => scrub d F.regs | none => F.regs), st := T } : Fr).seto dst r

def wantedO (ops : Array Oper) (o : Oper) (F : Fr) : Option Bool :=
  match o.guard with
  | none => some true
  | some (j, want) => match (ops[j]?).bind (·.dst) with
    | some d => match F.get d with
      | .v (.s (.bool b)) => some (b == want)
      | .v (.s (.tuple _)) => some false
      | _ => none
    | none => none

def runOps (C : Cfg) (call : FuncId → List PV → Store → Option (PV × Store)) (f : FuncId) (ops : Array Oper) : List Nat → Fr → Option Fr
  | [], F => some F
  | i :: r, F => match ops[i]? with
    | none => runOps C call f ops r F
    | some o => if (o.dst.any fun d => F.nt ≤ d) then none else match wantedO ops o F with
      | none => none
      | some false => runOps C call f ops r (F.seto o.dst (.v (.s undef)))
      | some true => match evalOp C call f o (F.ev C) F.st with
        | some (p, T, sc) => runOps C call f ops r (F.after o.dst p T sc)
        | none => none

/-- Does a register lead to a local? -/
def leads (d : Nat) : RV → Bool
  | .loc d' _ => d' == d
  | .v _ => false

/-- What lives on over a loop's rounds. -/
def Fr.clear (C : Cfg) (f : FuncId) (F : Fr) : Fr :=
  let regs := (C.keep f).map fun t => (t, F.get t)
  { F with regs, st := { F.st with L := F.st.L.filter fun x => regs.any fun y => leads x.1 y.2 } }

def iter (C : Cfg) (f : FuncId) (g : Fr → Option (X × Fr)) : Nat → Fr → Option (X × Fr)
  | 0, _ => none
  | n + 1, F => match g (F.clear C f) with
    | some (.normal, F1) => iter C f g n F1
    | r => r

/-! ### a region whose order is open -/
inductive Key where
  | B (b : Nat)
  | D (b i : Nat)
  | H (b : Nat)
  | C (d i : Nat)
  | N
  | A
  deriving DecidableEq

/-- Do two keys name one thing? 'B': a box whole; 'H': its head. -/
def clash : Key → Key → Bool
  | .B b, .B b' => b == b'
  | .B b, .D b' _ => b == b'
  | .B b, .H b' => b == b'
  | .D b _, .B b' => b == b'
  | .H b, .B b' => b == b'
  | .D b i, .D b' i' => b == b' && i == i'
  | .C d i, .C d' i' => d == d' && i == i'
  | .N, .N => true
  | .A, .A => true
  | .A, .B _ => true
  | .A, .D _ _ => true
  | .A, .H _ => true
  | .A, .N => true
  | .B _, .A => true
  | .D _ _, .A => true
  | .H _, .A => true
  | .N, .A => true
  | _, _ => false

def veq : Value → Value → Bool
  | .bool a, .bool b => a == b
  | .int k n, .int k' n' => decide (k = k') && decide (n = n')
  | .string a, .string b => decide (a = b)
  | .slice none 0 0, .slice none 0 0 => true
  | .pointer none, .pointer none => true
  | .nilIface, .nilIface => true
  | .nilFunc, .nilFunc => true
  | _, _ => false

theorem veq_eq {a b : Value} (h : veq a b = true) : a = b := by
  unfold veq at h
  split at h <;> simp_all

mutual
def peq : PV → PV → Bool
  | .any, .any => true
  | .s a, .s b => veq a b
  | .agg a, .agg b => peqs a b
  | .tup a, .tup b => peqs a b
  | .sl u n a, .sl u' n' b => u == u' && n == n' && peqs a b
  | .cel a o, .cel b o' => o == o' && peqs a b
  | .ptr b v o, .ptr b' v' o' => b == b' && v == v' && o == o'
  | .bsl b v o n, .bsl b' v' o' n' => b == b' && v == v' && o == o' && n == n'
  | .fn (.func g) a c, .fn (.func g') a' c' => g == g' && peqs a a' && peqs c c'
  | .iface t p, .iface t' p' => t == t' && peq p p'
  | _, _ => false
def peqs : List PV → List PV → Bool
  | [], [] => true
  | a :: r, b :: q => peq a b && peqs r q
  | _, _ => false
end

mutual
theorem peq_eq : ∀ {a b : PV}, peq a b = true → a = b
  | .any, b, h => by cases b <;> simp_all [peq]
  | .s a, b, h => by cases b <;> simp only [peq, Bool.false_eq_true] at h; rw [veq_eq h]
  | .agg a, b, h => by cases b <;> simp only [peq, Bool.false_eq_true] at h; rw [peqs_eq h]
  | .tup a, b, h => by cases b <;> simp only [peq, Bool.false_eq_true] at h; rw [peqs_eq h]
  | .sl u n a, b, h => by
    cases b <;> simp only [peq, Bool.false_eq_true, Bool.and_eq_true, beq_iff_eq] at h
    rw [peqs_eq h.2, h.1.1, h.1.2]
  | .cel a o, b, h => by
    cases b <;> simp only [peq, Bool.false_eq_true, Bool.and_eq_true, beq_iff_eq] at h
    rw [peqs_eq h.2, h.1]
  | .ptr b v o, c, h => by
    cases c <;> simp only [peq, Bool.false_eq_true, Bool.and_eq_true, beq_iff_eq] at h
    rw [h.1.1, h.1.2, h.2]
  | .bsl b v o n, c, h => by
    cases c <;> simp only [peq, Bool.false_eq_true, Bool.and_eq_true, beq_iff_eq] at h
    rw [h.1.1.1, h.1.1.2, h.1.2, h.2]
  | .fn f a c, b, h => by
    cases b with
    | fn f' a' c' =>
      cases f <;> try (simp [peq] at h; done)
      cases f' <;> try (simp [peq] at h; done)
      simp only [peq, Bool.and_eq_true, beq_iff_eq] at h
      rw [peqs_eq h.1.2, peqs_eq h.2, h.1.1]
    | _ => simp [peq] at h
  | .iface t p, b, h => by
    cases b <;> simp only [peq, Bool.false_eq_true, Bool.and_eq_true, beq_iff_eq] at h
    rw [peq_eq h.2, h.1]
theorem peqs_eq : ∀ {a b : List PV}, peqs a b = true → a = b
  | [], b, h => by cases b <;> simp_all [peqs]
  | a :: r, b, h => by
    cases b with
    | nil => simp [peqs] at h
    | cons c q =>
      simp only [peqs, Bool.and_eq_true] at h
      rw [peq_eq h.1, peqs_eq h.2]
end

def Store.sameL : List (Nat × Box) → List (Nat × Box) → Bool
  | [], [] => true
  | (a, x) :: r, (b, y) :: q => a == b && x.ver == y.ver && x.esz == y.esz && peqs x.cs y.cs && sameL r q
  | _, _ => false

def Store.same (S S' : Store) : Bool := S.next == S'.next && sameL S.bs S'.bs

theorem Store.sameL_eq : ∀ {a b : List (Nat × Box)}, sameL a b = true → a = b
  | [], b, h => by cases b <;> simp_all [sameL]
  | (a, ⟨v, z, cs⟩) :: r, b, h => by
    cases b with
    | nil => simp [sameL] at h
    | cons c q =>
      obtain ⟨c, ⟨v', z', cs'⟩⟩ := c
      simp only [sameL, Bool.and_eq_true, beq_iff_eq] at h
      rw [sameL_eq h.2, peqs_eq h.1.2, h.1.1.2, h.1.1.1.2, h.1.1.1.1]

theorem Store.same_eq {S S' : Store} (h : S.same S' = true) : S = S' := by
  obtain ⟨b, n⟩ := S
  obtain ⟨b', n'⟩ := S'
  simp only [Store.same, Bool.and_eq_true, beq_iff_eq] at h
  rw [h.1, sameL_eq h.2]

/-- Cells are laid among others; as many stay. -/
def setAt (off : Nat) (ps : List PV) : Nat → List PV → List PV
  | _, [] => []
  | i, c :: cs => (if off ≤ i then (ps[i - off]?).getD c else c) :: setAt off ps (i + 1) cs

/-- What an operation does to locals and boxes. -/
inductive Eff where
  | none
  | loc (d off : Nat) (ps : List PV)
  | box (b : Nat) (bx : Box)
  | bst (b off : Nat) (ps : List PV)
  | add (b : Nat) (bx : Box)

def Eff.app (T : LS) : Eff → LS
  | .none => T
  | .loc d off ps => { T with L := put T.L d (splice ((look T.L d).getD []) off ps) }
  | .box b bx => { T with S := T.S.put b bx }
  | .bst b off ps => match T.S.get b with
    | some bx => { T with S := T.S.put b { bx with cs := setAt off ps 0 bx.cs } }
    | Option.none => T
  | .add b bx => { T with S := { bs := (b, bx) :: T.S.bs, next := b + 1 } }

def Eff.wr : Eff → List Key
  | .none => []
  | .loc d off ps => (List.range ps.length).map fun i => .C d (off + i)
  | .box b _ => [.B b]
  | .bst b off ps => (List.range ps.length).map fun i => .D b (off + i)
  | .add b _ => [.N, .B b]

def keyB : RV → List Key
  | .v (.ptr b _ _) => [.B b]
  | .v (.bsl b _ _ _) => [.B b]
  | _ => []

def keyL (r : RV) (n : Option Nat) : List Key :=
  match r, n with
  | .loc d off, some n => (List.range (max n 1)).map fun i => .C d (off + i)
  | .v (.ptr b _ off), some n => (List.range (max n 1)).map fun i => .D b (off + i)
  | r, _ => keyB r

def keyH : RV → List Key
  | .v (.ptr b _ _) => [.H b]
  | .v (.bsl b _ _ _) => [.H b]
  | _ => []

/-- What it does, and what it looks at; none: it may not stand in such a region. -/
def effO (C : Cfg) (o : Oper) (ρ : Operand → RV) (T T1 : LS) : Option (Eff × List Key) :=
  let P := C.P
  let q (x : Operand) : PV := (ρ x).pv
  match o.op with
  | .move _ | .assign _ | .pick .. | .build .. | .buildSlice .. | .binOp .. | .unOp .. | .makeInterface .. | .makeFunc .. | .field .. | .index .. | .extract .. => some (.none, [])
  | .load t a => some (.none, keyL (ρ a) (size? P t))
  | .convert _ _ x => some (.none, keyB (ρ x))
  | .nilCheck x => some (.none, keyH (ρ x))
  | .slice _ x _ _ _ => some (.none, keyH (ρ x))
  | .fieldAddr _ x _ => some (.none, keyH (ρ x))
  | .indexAddr _ x _ => some (.none, keyH (ρ x))
  | .store _ a x => match cellsO (q x), ρ a with
    | some ps, .loc d off => some (.loc d off ps, [])
    | some ps, .v (.ptr b _ off) => match T.S.get b with
      | some _ => if ps.length = 0 then none else some (.bst b off ps, [.H b])
      | none => none
    | _, _ => none
  | .alloc e => match zeros P e with
    | some z => some (.add T.S.next ⟨0, 1, z⟩, [.N])
    | none => none
  | .box _ x => match cellsO (q x) with
    | some cs => some (.add T.S.next ⟨0, 1, cs⟩, [.N])
    | none => none
  | .makeSlice t n c => match makeSliceO P T t (q n) (q c) with
    | some (_, T') => match T'.S.bs with
      | (b, bx) :: _ => some (.add b bx, [.N])
      | [] => none
    | none => none
  | .call c => match c.callee with
    | .builtin .len => some (.none, [])
    | .builtin .min => some (.none, [])
    | .builtin .max => some (.none, [])
    | .builtin .append => match c.args.toList, c.argTypes.toList with
      | [s, x], t :: _ => match appendO P T t (q s) (q x), ρ s with
        | some (_, T'), .v (.bsl b _ _ _) => match T'.S.get b with
          | some bx => some (.box b bx, .B b :: keyB (ρ x))
          | none => none
        | some (_, T'), _ => match T'.S.bs with
          | (b, bx) :: _ => some (.add b bx, .N :: keyB (ρ x))
          | [] => none
        | none, _ => none
      | _, _ => none
    | .builtin .copy => match c.args.toList, c.argTypes.toList with
      | [d, x], t :: _ => match copyO P T t (q d) (q x), ρ d with
        | some (_, T'), .v (.bsl b _ _ _) => match T'.S.get b with
          | some bx => some (.box b bx, .B b :: keyB (ρ x))
          | none => none
        | _, _ => none
      | _, _ => none
    | .value g => match q g with
      | .fn (.func g) first captured => if !C.full g && pureL? (first ++ c.args.toList.map q ++ captured) then some (.none, []) else if C.full g && T.S.same T1.S then some (.none, [.A]) else none
      | _ => none
    | _ => none
  | _ => none

/-- An operation of such a region, as it was carried out in the text's order. -/
structure Ent where
  F : Fr
  ex : Bool
  r : RV
  e : Eff
  rd : List Key

def Ent.next (x : Ent) (dst : Option Nat) : Fr := ({ x.F with st := x.e.app x.F.st } : Fr).seto dst x.r

def traceOps (C : Cfg) (call : FuncId → List PV → Store → Option (PV × Store)) (f : FuncId) (ops : Array Oper) : List Oper → Fr → Option (List Ent × Fr)
  | [], F => some ([], F)
  | o :: r, F =>
    if (o.dst.any fun d => F.nt ≤ d) then none else
    let x : Option Ent := match wantedO ops o F with
      | none => none
      | some false => some ⟨F, false, .v (.s undef), .none, []⟩
      | some true => match evalOp C call f o (F.ev C) F.st with
        | some (p, T1, none) => (effO C o (F.ev C) F.st T1).map fun (e, rd) => ⟨F, true, p, e, rd⟩
        | _ => none
    match x with
    | none => none
    | some x => (traceOps C call f ops r (x.next o.dst)).map fun (l, F') => (x :: l, F')

def apart? (a b : List Key) : Bool := a.all fun x => b.all fun y => !clash x y

/-- Every operation's elders, as bits; they are what the edges tell. -/
def elders (ops : Array Oper) : Array Nat := Region.before ops
def elder? (ops : Array Oper) (i j : Nat) : Bool := ((elders ops).getD j 0).testBit i

def edgesB (ops : Array Oper) : Bool := (List.range ops.size).all fun j => match ops[j]? with
  | some o => o.after.all (fun e => !Region.binds .any e || decide (e.on < j)) &&
      (List.range j).all fun i => !elder? ops i j || o.after.any fun e => Region.binds .any e && (e.on == i || (decide (i < e.on) && elder? ops i e.on))
  | none => true

def tmpsB (ops : Array Oper) : Bool := (List.range ops.size).all fun j => (List.range j).all fun i => elder? ops i j ||
  match ops[i]?, ops[j]? with
  | some x, some y => x.apart ops y
  | _, _ => true

def keysB (ops : Array Oper) (l : List Ent) : Bool := (List.range l.length).all fun j => (List.range j).all fun i => elder? ops i j ||
  match l[i]?, l[j]? with
  | some x, some y => apart? x.e.wr (y.rd ++ y.e.wr) && apart? y.e.wr (x.rd ++ x.e.wr)
  | _, _ => true

/-- A region that is laid out in this mode is carried out whole. -/
def rankB (md : Region.Mode) (ops : Array Oper) : Bool := (List.range ops.size).all fun j => match ops[j]? with
  | some o => o.after.all fun e => !Region.binds md e || (decide (e.on < ops.size) && decide ((Region.linearise md ops 0).idxOf e.on < (Region.linearise md ops 0).idxOf j))
  | none => true

def runDraw (C : Cfg) (call : FuncId → List PV → Store → Option (PV × Store)) (f : FuncId) (ops : Array Oper) (F : Fr) : Option Fr :=
  if (C.P.follows .mixedOrders || !Region.departs ops || (rankB .text ops && rankB .gc ops)) && edgesB ops && tmpsB ops then
    match traceOps C call f ops ops.toList F with
    | some (l, F') => if keysB ops l then some F' else none
    | none => none
  else none

def exec (C : Cfg) (call : FuncId → List PV → Store → Option (PV × Store)) (f : FuncId) (n : Nat) : Code → Fr → Option (X × Fr)
  | .skip, F => some (.normal, F)
  | .label _, F => some (.normal, F)
  | .region _ ops draw, F => (if draw then runDraw C call f ops F else runOps C call f ops (List.range ops.size) F).map fun F => (.normal, F)
  | .seq a b, F => match exec C call f n a F with
    | some (.normal, F1) => exec C call f n b F1
    | r => r
  | .cond c a b, F => match F.ev C c with
    | .v (.s (.bool t)) => if t then exec C call f n a F else exec C call f n b F
    | _ => none
  | .block id c, F => match exec C call f n c F with
    | some (.exit j, F1) => if j = id then some (.normal, F1) else some (.exit j, F1)
    | r => r
  | .loop c, F => iter C f (exec C call f n c) n F
  | .exit id, F => some (.exit id, F)
  | .ret, F => some (.ret, F)
  | _, _ => none

/-- What boxes hold is told as it is now. -/
def frz (S : Store) : Nat → PV → Option PV
  | 0, _ => none
  | n + 1, p => match p with
    | .s v => some (.s v)
    | .sl u m cs => some (.sl u m cs)
    | .cel cs off => some (.cel cs off)
    | .agg cs => (cs.mapM (frz S n)).map .agg
    | .tup cs => (cs.mapM (frz S n)).map .tup
    | .bsl b ver off m => match S.get b with
      | some bx => if bx.ver = ver ∧ off + m * bx.esz ≤ bx.cs.length then
          (((bx.cs.drop off).take (m * bx.esz)).mapM (frz S n)).map (.sl false m) else none
      | none => none
    | _ => none

def flat? : PV → Bool
  | .s _ => true
  | .tup cs => cs.all fun | .s _ => true | _ => false
  | _ => false

/-- A call: with the boxes, or without. -/
def callF (C : Cfg) (rn : FuncId → List PV → Store → Option (PV × Store)) (g : FuncId) (args : List PV) (S : Store) : Option (PV × Store) :=
  if C.full g then rn g args S else
  if pureL? args then (rn g args ⟨[], 0⟩).bind fun (r, S1) => (frz S1 9 r).map fun r => (r, S)
  else match args.mapM (frz S 9) with
    | some as => (rn g as ⟨[], 0⟩).bind fun (r, S1) => (frz S1 9 r).bind fun r => if flat? r then some (r, S) else none
    | none => none

def resO (C : Cfg) (F : Fr) : ResultVar → Option PV
  | .tmp t => some (F.get t).pv
  | .cell a t => loadO C.P F.st t (F.get a)

def resultsO (C : Cfg) (fn : Func) (F : Fr) : Option PV :=
  match fn.results.toList.mapM (resO C F) with
  | some [p] => some p
  | some vs => some (.tup vs)
  | none => none

def begin (args : List PV) : Nat → List (Nat × RV)
  | i => match args with
    | [] => []
    | p :: r => (i, .v p) :: begin r (i + 1)

def run (C : Cfg) : Nat → FuncId → List PV → Store → Option (PV × Store)
  | 0, _, _, _ => none
  | n + 1, f, args, S =>
    match C.intr f with
    | some g => g args S
    | none =>
      match C.P.funcs[f]? with
      | none => none
      | some fn => match fn.body with
        | none => none
        | some c =>
          if fn.name = "runtime.NumGoroutine" then none else
          match exec C (callF C (run C n)) f n c { regs := begin args 0, st := ⟨[], S⟩, nt := fn.ntmps } with
          | some (.normal, F) | some (.ret, F) => (resultsO C fn F).map fun r => (r, F.st.S)
          | _ => none
end Go.Pvm
