/- The abstract machine, part 3: the operations, and that they are the model's. -/
import Derived.Test.YtpaehjjkfjgfiaaA2
set_option linter.unusedVariables false
set_option linter.unusedSimpArgs false
namespace Go.Abs
open Go Go.RowKit

/-- What is known of a type. -/
structure Ty where
  desc : TypeDesc
  size : Nat
  bytes : Nat
  zero : List V
  eq : Bool := false

abbrev Tab := TypeId → Option Ty

def TyOK (P : Program) (ty : Tab) : Prop := ∀ t i, ty t = some i → P.underlying t = some i.desc ∧
  ∃ ti z, P.info? t = some ti ∧ ti.size = i.size ∧ ti.bytes = i.bytes ∧ ti.zero = some z ∧ i.zero = z.cells.toList.map ofS ∧ i.zero.length = i.size ∧ (i.eq = true → P.stoodInHeld t = false ∧ P.eqGuardType P.depth t = false)

def aggD : TypeDesc → Bool
  | .struct _ | .array _ _ => true
  | _ => false

def rowOf (h : List HB) : V → Option (List V × Nat)
  | .ptr b o => match h[b]? with
    | some (.live cs) => some (cs, o)
    | _ => none
  | .vptr cs o => some (cs, o)
  | _ => none

abbrev OpR := Option (Prop × V × List HB)

def bitsOp (op : BinOp) (k : IntKind) (x y : Int) : Int :=
  k.wrap ((match op with
    | .and => BitVec.ofInt k.bits x &&& BitVec.ofInt k.bits y
    | .or => BitVec.ofInt k.bits x ||| BitVec.ofInt k.bits y
    | .xor => BitVec.ofInt k.bits x ^^^ BitVec.ofInt k.bits y
    | _ => BitVec.ofInt k.bits x &&& ~~~(BitVec.ofInt k.bits y)).toNat : Nat)

def shiftOp (op : BinOp) (k : IntKind) (x y : Int) : Int :=
  match op with
  | .shl => k.wrap (x * 2 ^ (min y.toNat k.bits))
  | _ => x.fdiv (2 ^ (min y.toNat k.bits))

/-- Two operands that are numbers. -/
def binInt (op : BinOp) (k k' : IntKind) (a b : Int) : Prop × V :=
  match op with
  | .add => (k = k', .int k (k.wrap (a + b)))
  | .sub => (k = k', .int k (k.wrap (a - b)))
  | .mul => (k = k', .int k (k.wrap (a * b)))
  | .quo => (k = k' ∧ b ≠ 0, .int k (k.wrap (a.tdiv b)))
  | .rem => (k = k' ∧ b ≠ 0, .int k (a.tmod b))
  | .shl => (0 ≤ b, .int k (shiftOp .shl k a b))
  | .shr => (0 ≤ b, .int k (shiftOp .shr k a b))
  | .and => (k = k', .int k (bitsOp .and k a b))
  | .or => (k = k', .int k (bitsOp .or k a b))
  | .xor => (k = k', .int k (bitsOp .xor k a b))
  | .andNot => (k = k', .int k (bitsOp .andNot k a b))
  | .eql => (k = k', .bool (a == b))
  | .neq => (k = k', .bool (a != b))
  | .lss => (k = k', .bool (a < b))
  | .leq => (k = k', .bool (a ≤ b))
  | .gtr => (k = k', .bool (a > b))
  | .geq => (k = k', .bool (a ≥ b))

def partOf (i : Ty) (cs : List V) (off : Nat) : Prop × V :=
  match aggD i.desc with
  | true => (off + i.size ≤ cs.length, .agg ((cs.drop off).take i.size))
  | false => (off < cs.length, nth cs off)

def bt (s : ByteArray) (i : Nat) : Nat := ((s.data[i]?).getD 0).toNat

def aIndexAddr (ty : Tab) (d : TypeDesc) (x ix : V) (h : List HB) : OpR :=
  match ix with
  | .int _ i =>
    match d, x with
    | .array n e, .ptr b o => (ty e).map fun ei => (0 ≤ i ∧ i < n, .ptr b (o + i.toNat * ei.size), h)
    | .array n e, .vptr cs o => (ty e).map fun ei => (0 ≤ i ∧ i < n, .vptr cs (o + i.toNat * ei.size), h)
    | .slice e, .slc b o _ len _ => (ty e).map fun ei => (0 ≤ i ∧ i < len, .ptr b (o + i.toNat * ei.size), h)
    | .slice e, .vec cs len _ => (ty e).map fun ei => (0 ≤ i ∧ i < len, .vptr cs (i.toNat * ei.size), h)
    | _, _ => none
  | _ => none

def aIndex (ty : Tab) (d : TypeDesc) (x ix : V) (h : List HB) : OpR :=
  match ix with
  | .int _ i =>
    match d, x with
    | .array n e, .agg cs => (ty e).map fun ei => ((0 ≤ i ∧ i < n) ∧ (partOf ei cs (i.toNat * ei.size)).1, (partOf ei cs (i.toNat * ei.size)).2, h)
    | .string, .str s => some (0 ≤ i ∧ i < s.size, .int .u8 (bt s i.toNat), h)
    | _, _ => none
  | _ => none

def fieldOf (d : TypeDesc) (f : Nat) : Option Field :=
  match d with
  | .struct fs => fs[f]?
  | _ => none

def aField (ty : Tab) (d : TypeDesc) (x : V) (f : Nat) (h : List HB) : OpR :=
  match fieldOf d f, x with
  | some fd, .agg cs => (ty fd.type).map fun fi => ((partOf fi cs fd.offset).1, (partOf fi cs fd.offset).2, h)
  | _, _ => none

def aFieldAddr (ty : Tab) (d : TypeDesc) (x : V) (f : Nat) (h : List HB) : OpR :=
  match fieldOf d f, x with
  | some fd, .ptr b o => (ty fd.type).map fun fi => (fi.size ≠ 0, .ptr b (o + fd.offset), h)
  | some fd, .vptr cs o => (ty fd.type).map fun fi => (fi.size ≠ 0, .vptr cs (o + fd.offset), h)
  | _, _ => none

def aUn : UnOp → V → Option V
  | .neg, .int k n => some (.int k (k.wrap (0 - n)))
  | .not, .bool b => some (.bool (!b))
  | .xor, .int k n => some (.int k (bitsOp .xor k (if k.signed then -1 else k.max) n))
  | _, _ => none

def aLoad (ty : Tab) (t : TypeId) (x : V) (h : List HB) : OpR :=
  match ty t, rowOf h x with
  | some i, some (cs, o) => some ((partOf i cs o).1, (partOf i cs o).2, h)
  | _, _ => none

def aStore (ty : Tab) (t : TypeId) (x y : V) (h : List HB) : OpR :=
  match ty t, x, y.cells? with
  | some i, .ptr b o, some vs =>
    match h[b]? with
    | some (.live cs) => some (vs.length = i.size ∧ o + vs.length ≤ cs.length ∧ ∀ v ∈ vs, v.one = true, .any, h.set b (.live (splice cs o vs)))
    | _ => none
  | _, _, _ => none

/-- The cells of fields, one behind the other: where they end. -/
def contig (ty : Tab) (off : Nat) : List Field → Option Nat
  | [] => some off
  | f :: fs => if f.offset = off ∧ f.name ≠ "_" then (ty f.type).bind fun i => contig ty (off + i.size) fs else none

/-- What a cell holds. -/
inductive Kd where
  | i (k : IntKind)
  | b
  | s
  deriving DecidableEq

def leavesF (f : TypeId → Option (List Kd)) : List Field → Option (List Kd)
  | [] => some []
  | g :: fs => match f g.type, leavesF f fs with
    | some a, some b => some (a ++ b)
    | _, _ => none

/-- Types whose values are equal where their cells are: what each cell holds. -/
def leaves (ty : Tab) : Nat → TypeId → Option (List Kd)
  | 0, _ => none
  | d + 1, t => match ty t with
    | none => none
    | some i => match i.desc with
      | .int k => if i.size = 1 then some [.i k] else none
      | .bool => if i.size = 1 then some [.b] else none
      | .string => if i.size = 1 then some [.s] else none
      | .array n e => match ty e, leaves ty d e with
        | some ei, some l => if i.size = n * ei.size then some (List.replicate n l).flatten else none
        | _, _ => none
      | .struct fs => if i.eq = true ∧ contig ty 0 fs.toList = some i.size then leavesF (leaves ty d) fs.toList else none
      | _ => none

def eqCell : Kd → V → V → Option Bool
  | .i q, .int k a, .int k' b => if q = k ∧ k = k' then some (a == b) else none
  | .b, .bool a, .bool b => some (a == b)
  | .s, .str a, .str b => some (a == b)
  | _, _, _ => none

def eqCells : List Kd → List V → List V → Option Bool
  | [], [], [] => some true
  | k :: ks, x :: xs, y :: ys => match eqCell k x y, eqCells ks xs ys with
    | some a, some b => some (a && b)
    | _, _ => none
  | _, _, _ => none

def eqV (op : BinOp) (b : Bool) (h : List HB) : OpR :=
  match op with
  | .eql => some (True, .bool b, h)
  | .neq => some (True, .bool (!b), h)
  | _ => none

def aBin (ty : Tab) (op : BinOp) (t : TypeId) (x y : V) (h : List HB) : OpR :=
  match x, y with
  | .int k a, .int k' b => some ((binInt op k k' a b).1, (binInt op k k' a b).2, h)
  | .bool a, .bool b => match ty t with
    | some i => match i.desc with
      | .bool => eqV op (a == b) h
      | _ => none
    | none => none
  | .str a, .str b => match op with
    | .eql => some (True, .bool (a == b), h)
    | .neq => some (True, .bool (!(a == b)), h)
    | .add => some (((a.size + b.size : Nat) : Int) ≤ 9223372036854775807, .str (a ++ b), h)
    | .lss => some (True, .bool (Op.bytesLess a.toList b.toList), h)
    | _ => none
  | .agg cs, .agg ds => match ty t, leaves ty 12 t with
    | some i, some ks => match eqCells ks cs ds with
      | some b => if i.eq = true ∧ aggD i.desc = true ∧ ks.length = i.size then eqV op b h else none
      | none => none
    | _, _ => none
  | _, _ => none

/-! ### Slices, strings, aggregates -/

def strCells (s : ByteArray) : List V := s.data.toList.map fun b => .int .u8 b.toNat

def lenOfV : V → Option Nat
  | .nils => some 0
  | .slc _ _ _ len _ => some len
  | .vec _ len _ => some len
  | .str s => some s.size
  | _ => none

/-- The cells that a slice or a string shows. -/
def cellsOf (h : List HB) : V → Option (List V)
  | .nils => some []
  | .slc b o z len _ => match h[b]? with
    | some (.live cs) => some ((cs.drop o).take (len * z))
    | _ => none
  | .vec cs _ _ => some cs
  | .str s => some (strCells s)
  | _ => none

abbrev maxBytes : Nat := 140737488355328

def aAppend (ty : Tab) (e : TypeId) (s x : V) (h : List HB) : OpR :=
  match ty e, lenOfV x, cellsOf h x with
  | some i, some n, some xs =>
    match s with
    | .nils => some ((xs.length = n * i.size ∧ (∀ v ∈ xs, v.one = true)) ∧ 0 < i.bytes ∧ n * i.bytes ≤ 140737488355328, if n = 0 then .nils else .slc h.length 0 i.size n n, if n = 0 then h else h ++ [.live xs])
    | .slc b o z len _ => match h[b]? with
      | some (.live cs) => some ((xs.length = n * i.size ∧ (∀ v ∈ xs, v.one = true)) ∧ z = i.size ∧ o + len * z = cs.length ∧ 0 < i.bytes ∧ (len + n) * i.bytes ≤ 140737488355328,
          .slc h.length 0 z (len + n) (len + n), (h.set b .dead) ++ [.live (cs.drop o ++ xs)])
      | _ => none
    | .vec cs len true => some ((xs.length = n * i.size ∧ (∀ v ∈ xs, v.one = true)) ∧ cs.length = len * i.size ∧ 0 < i.bytes ∧ (len + n) * i.bytes ≤ 140737488355328,
        if n = 0 then .vec cs len true else .slc h.length 0 i.size (len + n) (len + n), if n = 0 then h else h ++ [.live (cs ++ xs)])
    | _ => none
  | _, _, _ => none

def aMake (ty : Tab) (e : TypeId) (l c : V) (h : List HB) : OpR :=
  match ty e, l, c with
  | some i, .int _ l, .int _ c => some ((0 ≤ l ∧ l ≤ c) ∧ 0 < i.bytes ∧ i.bytes * c ≤ 281474976710656, .slc h.length 0 i.size l.toNat c.toNat, h ++ [.live (List.replicate c.toNat i.zero).flatten])
  | _, _, _ => none

def bytesOf : List V → Option (List UInt8)
  | [] => some []
  | .int .u8 n :: l => (bytesOf l).map (UInt8.ofNat n.toNat :: ·)
  | _ => none

def aToStr (x : V) (h : List HB) : OpR :=
  match lenOfV x, (cellsOf h x), x with
  | some _, some _, .str _ => none
  | some n, some cs, _ => match bytesOf cs with
    | some bs => some (cs.length = n, .str ⟨bs.toArray⟩, h)
    | none => none
  | _, _, _ => none

def optInt (v : Option V) (d : Int) : Option Int :=
  match v with
  | none => some d
  | some (.int _ n) => some n
  | some _ => none

def aSlice (ty : Tab) (d : TypeDesc) (x : V) (lo hi mx : Option V) (h : List HB) : OpR :=
  match d, x with
  | .string, .str s => match optInt lo 0, optInt hi s.size, mx with
    | some l, some r, none => some (0 ≤ l ∧ l ≤ r ∧ r ≤ s.size, .str (s.extract l.toNat r.toNat), h)
    | _, _, _ => none
  | .slice e, .slc b o z len cap => match ty e, optInt lo 0, optInt hi len, mx with
    | some i, some l, some r, none => some ((0 ≤ l ∧ l ≤ r ∧ r ≤ cap) ∧ z = i.size ∧ (l = 0 ∨ l < cap), .slc b (o + l.toNat * z) z (r.toNat - l.toNat) (cap - l.toNat), h)
    | _, _, _, _ => none
  | .slice e, .vec cs len _ => match ty e, optInt lo 0, optInt hi len, mx with
    | some i, some l, some r, none => some ((0 ≤ l ∧ l ≤ r ∧ r ≤ len) ∧ cs.length = len * i.size, .vec ((cs.drop (l.toNat * i.size)).take ((r.toNat - l.toNat) * i.size)) (r.toNat - l.toNat) false, h)
    | some i, some l, some r, some m => match optInt (some m) 0 with
      | some m => some ((0 ≤ l ∧ l ≤ r ∧ r ≤ m ∧ m ≤ len) ∧ cs.length = len * i.size ∧ hi.isSome = true, .vec ((cs.drop (l.toNat * i.size)).take ((r.toNat - l.toNat) * i.size)) (r.toNat - l.toNat) (decide (m = r)), h)
      | none => none
    | _, _, _, _ => none
  | .slice e, .nils => match ty e, optInt lo 0, optInt hi 0, mx with
    | some _, some l, some r, none => some (l = 0 ∧ r = 0, .nils, h)
    | some _, some l, some r, some m => match optInt (some m) 0 with
      | some m => some (l = 0 ∧ r = 0 ∧ m = 0 ∧ hi.isSome = true, .nils, h)
      | none => none
    | _, _, _, _ => none
  | .array n e, .ptr b o => match ty e, optInt lo 0, optInt hi n, mx with
    | some i, some l, some r, none => match h[b]? with
      | some (.live cs) => some ((0 ≤ l ∧ l ≤ r ∧ r ≤ n) ∧ o + n * i.size ≤ cs.length ∧ (l = 0 ∨ l < n), .slc b (o + l.toNat * i.size) i.size (r.toNat - l.toNat) (n - l.toNat), h)
      | _ => none
    | _, _, _, _ => none
  | _, _ => none

def aFill (place : Nat → Option (Nat × Nat)) (t : List V) : List (Nat × Operand) → List V → Option (Prop × List V)
  | [], cs => some (True, cs)
  | (i, x) :: rest, cs => match place i, (ev t x).cells? with
    | some (off, sz), some vs => (aFill place t rest (splice cs off vs)).map fun r => ((vs.length = sz ∧ off + vs.length ≤ cs.length) ∧ r.1, r.2)
    | _, _ => none

def placeS (ty : Tab) (fs : Array Field) (i : Nat) : Option (Nat × Nat) :=
  match fs[i]? with
  | some f => (ty f.type).map fun ti => (f.offset, ti.size)
  | none => none

/-- All fields' types are known. -/
def knownF (ty : Tab) (fs : List Field) : Bool := fs.all fun f => (ty f.type).isSome

def aBuild (ty : Tab) (t' : TypeId) (t : List V) (parts : List (Nat × Operand)) (h : List HB) : OpR :=
  match ty t' with
  | none => none
  | some i => match i.desc with
    | .struct fs => if knownF ty fs.toList = true then (aFill (placeS ty fs) t parts i.zero).map fun r => (r.1, .agg r.2, h) else none
    | .array _ e => match ty e with
      | some ei => (aFill (fun j => some (j * ei.size, ei.size)) t parts i.zero).map fun r => (r.1, .agg r.2, h)
      | none => none
    | _ => none

def aBuildSlice (ty : Tab) (e : TypeId) (len : Nat) (t : List V) (parts : List (Nat × Operand)) (h : List HB) : OpR :=
  match ty e with
  | none => none
  | some ei => (aFill (fun j => some (j * ei.size, ei.size)) t parts (List.replicate len ei.zero).flatten).map fun r =>
      (r.1 ∧ len * ei.size ≤ 16777216 ∧ 0 < ei.size, .slc h.length 0 ei.size len len, h ++ [.live r.2])

def aLen (d : TypeDesc) (x : V) : Option V :=
  match d, x with
  | .string, .str s => some (.int .i64 s.size)
  | .slice _, x => match x with
    | .nils => some (.int .i64 0)
    | .slc _ _ _ len _ => some (.int .i64 len)
    | .vec _ len _ => some (.int .i64 len)
    | _ => none
  | .array n _, _ => some (.int .i64 n)
  | _, _ => none

def aBuiltin (ty : Tab) (b : Builtin) (argTypes : Array TypeId) (args : List V) (h : List HB) : OpR :=
  match b with
  | .len => match argTypes[0]?, args with
    | some at0, [x] => (ty at0).bind fun i => (aLen i.desc x).map fun v => (True, v, h)
    | _, _ => none
  | .append => match argTypes[0]?, argTypes[1]?, args with
    | some a0, some a1, [s, x] => match ty a0, ty a1 with
      | some i0, some i1 => match i0.desc, i1.desc with
        | .slice e, .slice _ => aAppend ty e s x h
        | .slice e, .string => aAppend ty e s x h
        | _, _ => none
      | _, _ => none
    | _, _, _ => none
  | .max => match args with
    | [.int k x, .int _ y] => some (True, .int k (if y > x then y else x), h)
    | _ => none
  | .min => match args with
    | [.int k x, .int _ y] => some (True, .int k (if y < x then y else x), h)
    | [.int k x, .int _ y, .int _ z] => some (True, .int k (if z < (if y < x then y else x) then z else (if y < x then y else x)), h)
    | _ => none
  | _ => none

/-- The operations but calls. -/
def aop (ty : Tab) (t : List V) (h : List HB) : Op → OpR
  | .move x | .assign x => some (True, ev t x, h)
  | .pick c a b => match ev t c with
    | .bool c => some (True, if c = true then ev t a else ev t b, h)
    | _ => none
  | .alloc e => (ty e).map fun i => (True, .ptr h.length 0, h ++ [.live i.zero])
  | .box _ x => (ev t x).cells?.map fun cs => (True, .ptr h.length 0, h ++ [.live cs])
  | .load t' a => aLoad ty t' (ev t a) h
  | .store t' a x => aStore ty t' (ev t a) (ev t x) h
  | .unOp op _ x => (aUn op (ev t x)).map fun v => (True, v, h)
  | .binOp op bt x y _ => aBin ty op bt (ev t x) (ev t y) h
  | .indexAddr xt x i => (ty xt).bind fun d => aIndexAddr ty d.desc (ev t x) (ev t i) h
  | .index xt x i => (ty xt).bind fun d => aIndex ty d.desc (ev t x) (ev t i) h
  | .fieldAddr xt x f => (ty xt).bind fun d => aFieldAddr ty d.desc (ev t x) f h
  | .field xt x f => (ty xt).bind fun d => aField ty d.desc (ev t x) f h
  | .extract x i => match ev t x with
    | .tup vs => (vs[i]?).map fun v => (True, v, h)
    | _ => none
  | .makeFunc (.func f) first captured => if first.size = 0 then some (True, .fn f (captured.toList.map (ev t)), h) else none
  | .convert src dst x => match ty src, ty dst with
    | some si, some d => match si.desc, d.desc with
      | .int _, .int k => match ev t x with
        | .int _ n => some (True, .int k (k.wrap n), h)
        | _ => none
      | .slice e, .string => match ty e with
        | some ei => match ei.desc with
          | .int .u8 => aToStr (ev t x) h
          | _ => none
        | none => none
      | .string, .string => match ev t x with
        | .str s => some (True, .str s, h)
        | _ => none
      | _, _ => none
    | _, _ => none
  | .build t' parts => aBuild ty t' t parts.toList h
  | .buildSlice t' len parts => match ty t' with
    | some i => match i.desc with
      | .slice e => aBuildSlice ty e len t parts.toList h
      | _ => none
    | none => none
  | .makeSlice t' l c => match ty t' with
    | some i => match i.desc with
      | .slice e => aMake ty e (ev t l) (ev t c) h
      | _ => none
    | none => none
  | .slice xt x lo hi mx => (ty xt).bind fun d => aSlice ty d.desc (ev t x) (lo.map (ev t)) (hi.map (ev t)) (mx.map (ev t)) h
  | .call c => match c.callee with
    | .builtin b => aBuiltin ty b c.argTypes (c.args.toList.map (ev t)) h
    | _ => none
  | _ => none

/-- What a sound operation does. -/
def OpOK (P : Program) (o : Oper) (a : Act) (w : World) (ρ : Rho) (I : Nat → Prop) (h : List HB) (v : V) (h' : List HB) : Prop :=
  ∃ x w' ρ' I', ((execOp a.eval o).run P w = .ok (.value x) w' ∨ ((execOp a.eval o).run P w = .ok .skip w' ∧ x = undef)) ∧
    RV ρ' I' w' v x ∧ RH ρ' I' w' h' ∧ Keep h ρ I w h' ρ' I' w'

section
variable {P : Program} {ty : Tab} (T : TyOK P ty) {ρ : Rho} {I : Nat → Prop} {w : World} {s : St} {a : Act} (S : RS ρ I w s a) {o : Oper}
include S

theorem ok_val {v : V} {x : Value} (hr : (execOp a.eval o).run P w = .ok (.value x) w) (hv : RV ρ I w v x) : OpOK P o a w ρ I s.h v s.h :=
  ⟨x, w, ρ, I, .inl hr, hv, S.heap, Keep.refl _ _ _ _⟩

omit S in
theorem run_size {t : TypeId} {i : Ty} (T : TyOK P ty) (h : ty t = some i) (w : World) : (sizeOf t).run P w = .ok i.size w := by
  obtain ⟨_, ti, z, h1, h2, _⟩ := T t i h
  simp [sizeOf, typeInfo, h1, h2]
omit S in
theorem run_zero {t : TypeId} {i : Ty} (T : TyOK P ty) (h : ty t = some i) (w : World) : ∃ z, (zeroValue t).run P w = .ok z w ∧ i.zero = z.cells.toList.map ofS ∧ i.zero.length = i.size := by
  obtain ⟨_, ti, z, h1, h2, h3, h4, h5, h6, _⟩ := T t i h
  exact ⟨z, by simp [zeroValue, typeInfo, h1, h4], h5, h6⟩
omit S in
theorem run_und {t : TypeId} {i : Ty} (T : TyOK P ty) (h : ty t = some i) (w : World) : (underlying t).run P w = .ok i.desc w := run_underlying (T t i h).1 w
omit S in
theorem run_agg {t : TypeId} {i : Ty} (T : TyOK P ty) (h : ty t = some i) (w : World) : (isAgg t).run P w = .ok (aggD i.desc) w := by
  simp only [isAgg, Sem.run_bind, run_und T h, Result.andThen_ok]
  unfold aggD
  split <;> simp_all

omit S in
/-- A row that can be read. -/
theorem row_read {h : List HB} (H : RH ρ I w h) {v : V} {x : Value} (hv : RV ρ I w v x) {cs : List V} {o : Nat} (hr : rowOf h v = some (cs, o)) :
    ∃ rb off, x = .pointer (some ⟨rb, off + o, none⟩) ∧ ∀ (j : Nat) (u : V), cs[j]? = some u → ∃ y, w.cell? ⟨rb, off + j, none⟩ = some y ∧ RV ρ I w u y := by
  cases hv with
  | ptr hp =>
    rename_i b o' rb base
    simp only [rowOf] at hr
    split at hr
    · rename_i cs' hb
      simp only [Option.some.injEq, Prod.mk.injEq] at hr
      obtain ⟨rfl, rfl⟩ := hr
      obtain ⟨rb', base', c, e, fr, g1, g2, g3, g4, g5, g6⟩ := H.row b _ hb
      rw [hp] at g1; cases g1
      exact ⟨rb, base, rfl, fun j u hu => by rw [cell_of g2]; exact g4 j u hu⟩
    · cases hr
  | vptr f hI hc hv =>
    simp only [rowOf, Option.some.injEq, Prod.mk.injEq] at hr
    obtain ⟨rfl, rfl⟩ := hr
    exact ⟨_, _, rfl, fun j u hu => ⟨f j, hc j (List.getElem?_eq_some_iff.1 hu).1, hv j u hu⟩⟩
  | _ => simp [rowOf] at hr

omit S in
theorem part_load {i : Ty} {t : TypeId} (T : TyOK P ty) (ht : ty t = some i) {cs : List V} {rb off o : Nat}
    (hc : ∀ (j : Nat) (u : V), cs[j]? = some u → ∃ y, w.cell? ⟨rb, off + j, none⟩ = some y ∧ RV ρ I w u y) (hp : (partOf i cs o).1) :
    ∃ x, (loadVar t ⟨rb, off + o, none⟩).run P w = .ok x w ∧ RV ρ I w (partOf i cs o).2 x := by
  unfold partOf at hp ⊢
  simp only [loadVar, Sem.run_bind, run_agg T ht, Result.andThen_ok]
  cases ha : aggD i.desc
  case true =>
    rw [ha] at hp
    simp only [if_true, Sem.run_bind, run_size T ht, Result.andThen_ok]
    have hget : ∀ j, j < i.size → ∃ y, w.cell? ⟨rb, off + (o + j), none⟩ = some y ∧ RV ρ I w (cs.getD (o + j) .any) y := by
      intro j hj
      have : o + j < cs.length := by have : o + i.size ≤ cs.length := hp; omega
      have := hc (o + j) (cs.getD (o + j) .any) (by rw [List.getD_eq_getElem?_getD, List.getElem?_eq_getElem this]; rfl)
      exact this
    classical
    let f : Nat → Value := fun j => if h : j < i.size then Classical.choose (hget j h) else undef
    have hf : ∀ j (h : j < i.size), w.cell? ⟨rb, off + (o + j), none⟩ = some (f j) ∧ RV ρ I w (cs.getD (o + j) .any) (f j) := by
      intro j h; simp only [f, h, dif_pos]; exact Classical.choose_spec (hget j h)
    rw [run_loadCells w _ i.size f (fun j hj => by rw [addr_add, Nat.add_assoc]; exact (hf j hj).1)]
    refine ⟨_, rfl, .agg (by simp; have : o + i.size ≤ cs.length := hp; omega) ?_⟩
    intro j u x hu hx
    have hj : j < i.size := by
      rcases Nat.lt_or_ge j i.size with h | h
      · exact h
      · rw [Array.getElem?_eq_none (by simp; exact h)] at hx; cases hx
    simp [List.getElem?_map, hj] at hx
    subst hx
    have := (hf j hj).2
    rw [List.getElem?_take_of_lt hj, List.getElem?_drop] at hu
    rw [List.getD_eq_getElem?_getD, hu] at this
    exact this
  case false =>
    rw [ha] at hp
    simp only [Bool.false_eq_true, if_false]
    have hlt : o < cs.length := hp
    rw [nth_eq]
    obtain ⟨y, hy, hr⟩ := hc o (cs.getD o .any) (by rw [List.getD_eq_getElem?_getD, List.getElem?_eq_getElem hlt]; rfl)
    exact ⟨y, by simp [hy], hr⟩

omit S in
theorem part_part {i : Ty} {t : TypeId} (T : TyOK P ty) (ht : ty t = some i) {cs : List V} {vs : Array Value} (hl : cs.length = vs.size)
    (hv : ∀ (i : Nat) (v : V) (x : Value), cs[i]? = some v → vs[i]? = some x → RV ρ I w v x) {o : Nat} (hp : (partOf i cs o).1) :
    ∃ x, (part t vs o).run P w = .ok x w ∧ RV ρ I w (partOf i cs o).2 x := by
  unfold partOf at hp ⊢
  simp only [part, Sem.run_bind, run_agg T ht, Result.andThen_ok]
  cases ha : aggD i.desc
  case true =>
    rw [ha] at hp
    simp only [if_true, Sem.run_bind, run_size T ht, Result.andThen_ok]
    have hp' : o + i.size ≤ cs.length := hp
    refine ⟨_, rfl, .agg (by simp; omega) ?_⟩
    intro j u x hu hx
    have hj : j < i.size := by
      rcases Nat.lt_or_ge j i.size with h | h
      · exact h
      · rw [List.getElem?_eq_none (by simp; omega)] at hu; cases hu
    rw [List.getElem?_take_of_lt hj, List.getElem?_drop] at hu
    have : vs[o + j]? = some x := by
      rw [Array.getElem?_extract] at hx
      split at hx
      · exact hx
      · cases hx
    exact hv _ _ _ hu this
  case false =>
    rw [ha] at hp
    have hlt : o < cs.length := hp
    simp only [Bool.false_eq_true, if_false]
    have : vs[o]? = some (vs[o]'(by omega)) := Array.getElem?_eq_getElem _
    rw [this]
    exact ⟨_, rfl, hv o _ _ (by rw [nth_eq, List.getD_eq_getElem?_getD, List.getElem?_eq_getElem hlt]; rfl) this⟩
end
end Go.Abs
