/-
  The abstract machine: a run of the model's machine without its tape, over a heap of its own. Definitions alone.
-/
import Derived.WalkKit
import Derived.AtR
import Derived.Orders
import Derived.Laws.StructEq
namespace Go.Am
open Go

/-- What stands for a capacity that is not known. -/
def big : Nat := 1152921504606846976

/-- A binary tree with a place for each number. -/
inductive Tr (α : Type) where
  | nil
  | node (l : Tr α) (v : α) (r : Tr α)

def Tr.get {α : Type} (d : α) : Tr α → Nat → α
  | .nil, _ => d
  | .node l v r, n => bif Nat.beq n 0 then v else bif Nat.beq (n % 2) 1 then l.get d (n / 2) else r.get d (n / 2 - 1)

def Tr.set {α : Type} (d : α) : Nat → Tr α → Nat → α → Tr α
  | 0, t, _, _ => t
  | f + 1, .nil, n, x => bif Nat.beq n 0 then .node .nil x .nil else bif Nat.beq (n % 2) 1 then .node (Tr.set d f .nil (n / 2) x) d .nil else .node .nil d (Tr.set d f .nil (n / 2 - 1) x)
  | f + 1, .node l v r, n, x => bif Nat.beq n 0 then .node l x r else bif Nat.beq (n % 2) 1 then .node (Tr.set d f l (n / 2) x) v r else .node l v (Tr.set d f r (n / 2 - 1) x)

/-- The temporaries of a frame, and how many there are. -/
structure Tmps where
  size : Nat
  tr : Tr Value

def Tmps.get (t : Tmps) (i : Nat) : Value := t.tr.get undef i

/-- The place must lie in the frame. -/
def Tmps.set (t : Tmps) (i : Nat) (v : Value) : Tmps := ⟨t.size, t.tr.set undef (i + 1) i v⟩

def Tmps.fill (t : Tr Value) (i : Nat) : List Value → Tr Value
  | [] => t
  | v :: vs => Tmps.fill (t.set undef (i + 1) i v) (i + 1) vs

structure ALoop where
  state : LoopState
  pending : Option Code
  fn : FuncId
  tmps : Tmps
  params : List Tmp
  assign : Code
  body : Code
  defers : Nat

inductive AObj where
  | cells (c : List Value) (esz : Nat)
  | ro (c : List Value)
  | dead
  | iter (s : ByteArray) (pos : Nat)
  | loop (l : ALoop)
  | deferred (taken : Bool)

structure AHeap where
  n : Nat
  tr : Tr AObj

def AHeap.get (h : AHeap) (b : Nat) : AObj := h.tr.get .dead b

def AHeap.set (h : AHeap) (b : Nat) (o : AObj) : AHeap := ⟨h.n, h.tr.set .dead (b + 1) b o⟩

def AHeap.push (h : AHeap) (o : AObj) : AHeap := ⟨h.n + 1, h.tr.set .dead (h.n + 1) h.n o⟩

inductive AItem where
  | code (c : Code)
  | inBlock (id : Nat)
  | inLoop (body : Code)
  | inScope (body : Code)
  | ops (all : Array Oper) (k : Nat) (rest : List Oper)
  | inRangeFunc (l : Nat)
  | endRangeFunc (l : Nat)
  | beginRound

structure AFrame where
  fn : FuncId
  tmps : Tmps
  todo : List AItem
  roundOf : Option Nat
  defers : List Nat
  ret : Bool

structure AState where
  cur : AFrame
  callers : List AFrame
  h : AHeap

def isCell : Value → Bool
  | .agg _ | .tuple _ => false
  | _ => true

def AObj.row : AObj → Option (List Value)
  | .cells c _ => some c
  | .ro c => some c
  | _ => none

def aread (h : AHeap) (b i : Nat) : Option Value := (h.get b).row.bind (·[i]?)

/-- n cells from place i on. -/
def takeAt (c : List Value) (i n : Nat) : Option (List Value) :=
  if i + n ≤ c.length then some ((c.drop i).take n) else none

def areadN (h : AHeap) (b i n : Nat) : Option (List Value) := (h.get b).row.bind (takeAt · i n)

def setAll (c : List Value) (i : Nat) : List Value → List Value
  | [] => c
  | v :: vs => setAll (c.set i v) (i + 1) vs

def awriteN (h : AHeap) (b i : Nat) (vs : List Value) : Option AHeap :=
  match h.get b with
  | .cells c e => if i + vs.length ≤ c.length && vs.all isCell then some (h.set b (.cells (setAll c i vs) e)) else none
  | _ => none

def aev (tmps : Tmps) : Operand → Value
  | .tmp t => tmps.get t
  | .const v => v
  | .global g => .pointer (some ⟨g, 0, none⟩)
  | .func f => .func (.func f) #[] #[]

def alive (h : AHeap) (b : Nat) : Bool :=
  match h.get b with
  | .cells _ _ => true
  | _ => false

def aisAgg (P : Program) (t : TypeId) : Option Bool :=
  match P.underlying t with
  | some (.struct _) | some (.array _ _) => some true
  | some _ => some false
  | none => none

def asize (P : Program) (t : TypeId) : Option Nat := (P.info? t).map (·.size)

def plainV : Value → Bool
  | .bool _ | .int .. | .string _ | .nilFunc | .nilIface | .pointer none => true
  | .slice none _ c => Nat.blt c big
  | _ => false

/-- The zero value of a type, if its cells are plain. -/
def azero (P : Program) (t : TypeId) : Option Value :=
  match (P.info? t).bind (·.zero) with
  | some (.tuple _) => none
  | some z => if z.cells.toList.all plainV then some z else none
  | none => none

def aload (P : Program) (h : AHeap) (t : TypeId) : Value → Option Value
  | .pointer (some ⟨b, i, none⟩) => do
    if ← aisAgg P t then
      let n ← asize P t
      let cs ← areadN h b i n
      some (.agg cs.toArray)
    else aread h b i
  | _ => none

def astore (P : Program) (h : AHeap) (t : TypeId) (a v : Value) : Option AHeap :=
  match a with
  | .pointer (some ⟨b, i, none⟩) => do
    if (asize P t) == some v.cells.size then awriteN h b i v.cells.toList else none
  | _ => none

def anew (h : AHeap) (c : List Value) (esz : Nat) : Option (Value × AHeap) :=
  some (.pointer (some ⟨h.n, 0, none⟩), h.push (.cells c esz))

def abuild (P : Program) (t : TypeId) (parts : List (Nat × Value)) : Option Value := do
  let _ ← azero P t
  (P.built t parts).map .agg

def abuildSlice (P : Program) (h : AHeap) (t : TypeId) (len : Nat) (parts : List (Nat × Value)) : Option (Value × AHeap) :=
  match P.underlying t with
  | some (.slice elem) =>
    match asize P elem, azero P elem with
    | some size, some z =>
      if len * size = 0 ∧ len < big then (match parts with | [] => some (.slice (some ⟨h.n, 0, none⟩) len len, h.push (.cells [] 0)) | _ => none) else
      if len ≥ big || len * size > 1000000 || z.cells.size = 0 then none else
      match Instr.fill (fun i => some (i * size, size)) (madeCells z.cells (len * size)) parts with
      | some cells => some (.slice (some ⟨h.n, 0, none⟩) len len, h.push (.cells cells.toList 0))
      | none => none
    | _, _ => none
  | _ => none

def afieldAddr (P : Program) (s : TypeId) (a : Value) (field : Nat) : Option Value :=
  match P.underlying s, a with
  | some (.struct fields), .pointer (some ⟨b, i, none⟩) => do
    let f ← fields[field]?
    let n ← asize P f.type
    if n = 0 then none else some (.pointer (some ⟨b, i + f.offset, none⟩))
  | _, _ => none

def apart (P : Program) (t : TypeId) (cs : Array Value) (off : Nat) : Option Value := do
  if ← aisAgg P t then
    let n ← asize P t
    some (.agg (cs.extract off (off + n)))
  else cs[off]?

def afield (P : Program) (t : TypeId) (x : Value) (field : Nat) : Option Value :=
  match P.underlying t, x with
  | some (.struct fields), .agg cs => do
    let f ← fields[field]?
    apart P f.type cs f.offset
  | _, _ => none

def aindexAddr (P : Program) (t : TypeId) (x ix : Value) : Option Value :=
  match P.underlying t, x, ix with
  | some (.array len elem), .pointer (some ⟨b, o, none⟩), .int _ i => do
    let n ← asize P elem
    if 0 ≤ i ∧ i < len then some (.pointer (some ⟨b, o + i.toNat * n, none⟩)) else none
  | some (.slice elem), .slice (some ⟨b, o, none⟩) len _, .int _ i => do
    let n ← asize P elem
    if 0 ≤ i ∧ i < len then some (.pointer (some ⟨b, o + i.toNat * n, none⟩)) else none
  | _, _, _ => none

def aindex (P : Program) (t : TypeId) (x ix : Value) : Option Value :=
  match P.underlying t, x, ix with
  | some (.array len elem), .agg cs, .int _ i => do
    let n ← asize P elem
    if 0 ≤ i ∧ i < len then apart P elem cs (i.toNat * n) else none
  | some .string, .string s, .int _ i =>
    if 0 ≤ i then (s[i.toNat]?).map fun b => .int .u8 b.toNat else none
  | _, _, _ => none

/-- A bound of a slice expression: none of the text: the default. -/
def abound (x : Option Value) (dflt most : Nat) : Option Nat :=
  match x with
  | none => if dflt ≤ most then some dflt else none
  | some (.int _ i) => if 0 ≤ i ∧ i ≤ most then some i.toNat else none
  | some _ => none

def ahi (hi mx : Option Value) (len m : Nat) : Option Nat :=
  match hi, mx with
  | some _, _ => abound hi len m
  | none, none => some len
  | none, some _ => none

def eszOf (h : AHeap) (b : Nat) : Option Nat :=
  match h.get b with
  | .cells _ e => some e
  | _ => none

def aslice (P : Program) (h : AHeap) (t : TypeId) (x : Value) (lo hi mx : Option Value) : Option Value :=
  match P.underlying t, x with
  | some .string, .string s => do
    if mx.isSome then none
    let hh ← ahi hi none s.size s.size
    let l ← abound lo 0 hh
    some (.string (s.extract l hh))
  | some (.slice elem), .slice a len cap => do
    let size ← asize P elem
    if cap < big then
      let m ← abound mx cap cap
      let hh ← ahi hi mx len m
      let l ← abound lo 0 hh
      match a with
      | none => some (.slice none (hh - l) (m - l))
      | some ⟨b, o, none⟩ => some (.slice (some ⟨b, if m = l then o else o + l * size, none⟩) (hh - l) (m - l))
      | _ => none
    else if cap = big ∧ len < big then
      -- with a capacity that is not known nothing beyond the length is asked for
      let m ← abound mx len len
      let hh ← ahi hi mx len m
      let l ← abound lo 0 hh
      match a with
      | some ⟨b, o, none⟩ =>
        if mx.isSome then some (.slice (some ⟨b, if m = l then o else o + l * size, none⟩) (hh - l) (m - l))
        else if l = 0 then some (.slice (some ⟨b, o, none⟩) hh big)
        else if l < len ∧ eszOf h b = some size then some (.slice (some ⟨b, o + l * size, none⟩) (hh - l) big)
        else none
      | _ => none
    else none
  | some (.array n elem), .pointer (some ⟨b, o, none⟩) => do
    let size ← asize P elem
    if n < big then
      let m ← abound mx n n
      let hh ← ahi hi mx n m
      let l ← abound lo 0 hh
      some (.slice (some ⟨b, if m = l then o else o + l * size, none⟩) (hh - l) (m - l))
    else none
  | _, _ => none

def asame : TypeDesc → Value → Value → Option Bool
  | .int _, .int k a, .int k' b => if k = k' then some (a == b) else none
  | .bool, .bool a, .bool b => some (a == b)
  | .string, .string a, .string b => some (a == b)
  | _, _, _ => none

def aeqFields (P : Program) (eq : TypeId → Value → Value → Option Bool) (xs ys : Array Value) : List Field → Option Bool
  | [] => some true
  | f :: fs =>
    if f.name = "_" then none else
    match apart P f.type xs f.offset, apart P f.type ys f.offset with
    | some a, some b =>
      match eq f.type a b with
      | some true => aeqFields P eq xs ys fs
      | some false => some false
      | none => none
    | _, _ => none

/-- Equality of structs whose parts are plain. -/
def aequal (P : Program) : Nat → TypeId → Value → Value → Option Bool
  | 0, _, _, _ => none
  | d + 1, t, x, y =>
    match P.underlying t, x, y with
    | some (.struct fields), .agg xs, .agg ys => if P.stoodInHeld t then none else aeqFields P (aequal P d) xs ys fields.toList
    | some (.slice _), .slice none _ _, .slice b _ _ => some b.isNone
    | some (.slice _), .slice _ _ _, .slice none _ _ => some false
    | some (.func ..), .nilFunc, .nilFunc => some true
    | some (.func ..), .nilFunc, .func .. => some false
    | some (.func ..), .func .., .nilFunc => some false
    | some (.pointer _), .pointer none, .pointer b => some b.isNone
    | some (.pointer _), .pointer _, .pointer none => some false
    | some d, x, y => asame d x y
    | none, _, _ => none

def noGuard (P : Program) (t : TypeId) : Value → Bool
  | .agg _ => !P.eqGuardType P.depth t
  | .nilIface => false
  | _ => true

def abinOp (P : Program) (op : BinOp) (t : TypeId) (x y : Value) : Option Value :=
  match op, x, y with
  | .shl, .int k a, .int _ b => if b < 0 then none else some (.int k (k.wrap (a * 2 ^ min b.toNat k.bits)))
  | .shr, .int k a, .int _ b => if b < 0 then none else some (.int k (a.fdiv (2 ^ min b.toNat k.bits)))
  | _, .int k a, .int k' b =>
    if k ≠ k' then none else
    match op with
    | .add => some (.int k (k.wrap (a + b)))
    | .sub => some (.int k (k.wrap (a - b)))
    | .mul => some (.int k (k.wrap (a * b)))
    | .quo => if b = 0 then none else some (.int k (k.wrap (a.tdiv b)))
    | .rem => if b = 0 then none else some (.int k (a.tmod b))
    | .and => some (.int k (k.wrap (BitVec.ofInt k.bits a &&& BitVec.ofInt k.bits b).toNat))
    | .or => some (.int k (k.wrap (BitVec.ofInt k.bits a ||| BitVec.ofInt k.bits b).toNat))
    | .xor => some (.int k (k.wrap (BitVec.ofInt k.bits a ^^^ BitVec.ofInt k.bits b).toNat))
    | .andNot => some (.int k (k.wrap (BitVec.ofInt k.bits a &&& ~~~ BitVec.ofInt k.bits b).toNat))
    | .eql => some (.bool (a == b))
    | .neq => some (.bool (a != b))
    | .lss => some (.bool (a < b))
    | .leq => some (.bool (a ≤ b))
    | .gtr => some (.bool (a > b))
    | .geq => some (.bool (a ≥ b))
    | _ => none
  | _, .string a, .string b =>
    match op with
    | .add => if ((a.size + b.size : Nat) : Int) > IntKind.i64.max then none else some (.string (a ++ b))
    | .eql => some (.bool (a.toList == b.toList))
    | .neq => some (.bool (!(a.toList == b.toList)))
    | .lss => some (.bool (Op.bytesLess a.toList b.toList))
    | _ => none
  | .eql, x, y => if noGuard P t x then (aequal P 100 t x y).map .bool else none
  | .neq, x, y => if noGuard P t x then (aequal P 100 t x y).map fun r => .bool (!r) else none
  | _, _, _ => none

def aunOp (op : UnOp) (x : Value) : Option Value :=
  match op, x with
  | .neg, .int k n => some (.int k (k.wrap (0 - n)))
  | .xor, .int k n => some (.int k (k.wrap (BitVec.ofInt k.bits (if k.signed then -1 else k.max) ^^^ BitVec.ofInt k.bits n).toNat))
  | .not, .bool b => some (.bool !b)
  | _, _ => none

def toBytes : List Value → Option (List UInt8)
  | [] => some []
  | .int .u8 n :: r => (toBytes r).map (UInt8.ofNat n.toNat :: ·)
  | _ => none

def aconvert (P : Program) (h : AHeap) (src dst : TypeId) (x : Value) : Option (Value × AHeap) :=
  match P.underlying src, P.underlying dst, x with
  | some _, some (.int k), .int _ n => some (.int k (k.wrap n), h)
  | some _, some .string, .string s => some (.string s, h)
  | some .string, some (.slice e), .string s =>
    match P.underlying e with
    | some (.int .u8) => some (.slice (some ⟨h.n, 0, none⟩) s.size big, h.push (.cells (s.data.toList.map fun b => .int .u8 b.toNat) 1))
    | _ => none
  | some (.slice e), some .string, .slice a len _ =>
    match P.underlying e, a with
    | some (.int .u8), none => some (.string .empty, h)
    | some (.int .u8), some ⟨b, o, none⟩ => do
      let cs ← areadN h b o len
      let l ← toBytes cs
      some (.string ⟨l.toArray⟩, h)
    | _, _ => none
  | _, _, _ => none

def amakeSlice (P : Program) (h : AHeap) (t : TypeId) (len cap : Value) : Option (Value × AHeap) :=
  match P.underlying t, len, cap with
  | some (.slice elem), .int _ l, .int _ c =>
    match P.info? elem, azero P elem with
    | some i, some z =>
      if l < 0 || l > c || c > 140737488355328 || i.bytes * c.toNat > 140737488355328 || z.cells.size = 0 then none else
      some (.slice (some ⟨h.n, 0, none⟩) l.toNat c.toNat, h.push (.cells (madeCells z.cells (c.toNat * i.size)).toList 0))
    | _, _ => none
  | _, _, _ => none

/-- The cells of what is appended. -/
def firstOf (h : AHeap) (size n : Nat) : Value → Option (List Value)
  | .slice (some ⟨b, o, none⟩) _ _ => areadN h b o (n * size)
  | .slice none _ _ => some []
  | .string s => some (((s.extract 0 n).data.map fun b => .int .u8 b.toNat).toList)
  | _ => none

def lenOf : Value → Option Nat
  | .slice _ n _ => some n
  | .string s => some s.size
  | _ => none

/-- Is a value of the type no number? (What append appends.) -/
def isIntT : TypeDesc → Bool
  | .slice _ | .string => false
  | _ => true

/-- A store of cells that may be none. -/
def awriteAt (h : AHeap) (base : Option Addr) (k : Nat) (vs : List Value) : Option AHeap :=
  match vs, base with
  | [], _ => some h
  | vs, some ⟨b, o, none⟩ => awriteN h b (o + k) vs
  | _, _ => none

def aappend (P : Program) (h : AHeap) (argTypes : Array TypeId) (s x : Value) : Option (Value × AHeap) :=
  match argTypes[0]?, argTypes[1]? with
  | some st, some xt =>
    match P.underlying st, P.underlying xt, s with
    | some (.slice elem), some xd, .slice base sLen sCap =>
      match P.info? elem, azero P elem, lenOf x with
      | some i, some z, some n =>
        if isIntT xd || i.size = 0 || i.bytes = 0 || z.cells.size ≠ i.size || (sLen + n) * i.bytes > 140737488355328 then none else
        match firstOf h i.size n x with
        | none => none
        | some new =>
          if new.length ≠ n * i.size then none else
          if sCap < big then
            if sLen + n ≤ sCap then (awriteAt h base (sLen * i.size) new).map fun h' => (.slice base (sLen + n) sCap, h')
            else
              match firstOf h i.size sLen s with
              | some old => if old.length = sLen * i.size then some (.slice (some ⟨h.n, 0, none⟩) (sLen + n) big, h.push (.cells (old ++ new) i.size)) else none
              | none => none
          else if sCap = big then
            if n = 0 then (if new = [] then some (s, h) else none)
            else
              match base with
              | some ⟨b, o, none⟩ =>
                match areadN h b o (sLen * i.size), eszOf h b with
                | some old, some e => if e = i.size ∧ new.all isCell = true then some (.slice (some ⟨h.n, 0, none⟩) (sLen + n) big, (h.set b .dead).push (.cells (old ++ new) i.size)) else none
                | _, _ => none
              | _ => none
          else none
      | _, _, _ => none
    | _, _, _ => none
  | _, _ => none

def acopy (P : Program) (h : AHeap) (argTypes : Array TypeId) (d x : Value) : Option (Value × AHeap) :=
  match argTypes[0]? with
  | some dt =>
    match P.underlying dt, d with
    | some (.slice elem), .slice base dLen _ =>
      match asize P elem, lenOf x with
      | some size, some m =>
        match firstOf h size (Nat.min m dLen) x with
        | some new => (awriteAt h base 0 new).map fun h' => (.int .i64 (Nat.min m dLen), h')
        | none => none
      | _, _ => none
    | _, _ => none
  | none => none

def alen (P : Program) (t : TypeId) (x : Value) : Option Value :=
  match P.underlying t, x with
  | some .string, .string s => some (.int .i64 s.size)
  | some (.array n _), _ => some (.int .i64 n)
  | some (.slice _), .slice _ n _ => some (.int .i64 n)
  | _, _ => none

def acap (P : Program) (t : TypeId) (x : Value) : Option Value :=
  match P.underlying t, x with
  | some (.slice _), .slice _ _ n => if n = big then none else some (.int .i64 n)
  | some (.array n _), _ => some (.int .i64 n)
  | _, _ => none

def amin (mx : Bool) : List Value → Option Value
  | [] => none
  | x :: r => r.foldlM (fun a b => match a, b with
    | .int k p, .int _ q => some (.int k (if mx then (if q > p then q else p) else (if q < p then q else p)))
    | _, _ => none) x

def abuiltin (P : Program) (h : AHeap) (b : Builtin) (argTypes : Array TypeId) (args : List Value) : Option (Value × AHeap) :=
  match b, args with
  | .append, [s, x] => aappend P h argTypes s x
  | .copy, [d, x] => acopy P h argTypes d x
  | .len, [x] => do let t ← argTypes[0]?; (alen P t x).map (·, h)
  | .cap, [x] => do let t ← argTypes[0]?; (acap P t x).map (·, h)
  | .min, l => (amin false l).map (·, h)
  | .max, l => (amin true l).map (·, h)
  | _, _ => none

inductive ANext where
  | value (v : Value) (h : AHeap)
  | enter (f : FuncId) (args : List Value) (h : AHeap)
  | round (l : Nat) (args : List Value)

/-- An operation that leaves the heap alone, and yields one value. -/
def apure (P : Program) (ev : Operand → Value) (h : AHeap) (o : Oper) : Option Value :=
  match o.op with
  | .move x | .assign x => some (ev x)
  | .pick c a b => match ev c with | .bool t => some (if t then ev a else ev b) | _ => none
  | .build t parts => abuild P t (parts.toList.map fun p => (p.1, ev p.2))
  | .load t a => aload P h t (ev a)
  | .nilCheck x => match ev x with | .pointer (some a) => some (.pointer (some a)) | _ => none
  | .binOp op t x y _ => abinOp P op t (ev x) (ev y)
  | .unOp op _ x => aunOp op (ev x)
  | .convert s d x => match P.underlying s, P.underlying d, ev x with
    | some _, some (.int k), .int _ n => some (.int k (k.wrap n))
    | some _, some .string, .string s => some (.string s)
    | _, _, _ => none
  | .slice t x lo hi mx => aslice P h t (ev x) (lo.map ev) (hi.map ev) (mx.map ev)
  | .fieldAddr s x f => afieldAddr P s (ev x) f
  | .field t x f => afield P t (ev x) f
  | .indexAddr t x i => aindexAddr P t (ev x) (ev i)
  | .index t x i => aindex P t (ev x) (ev i)
  | .extract t i => match ev t with | .tuple vs => vs[i]? | _ => none
  | .makeFunc fn first captured => match fn with
    | .func f => some (.func (.func f) (first.map ev) (captured.map ev))
    | _ => none
  | .call { callee := .builtin b, args, argTypes } =>
    match b, args.toList with
    | .len, [x] => do let t ← argTypes[0]?; alen P t (ev x)
    | .cap, [x] => do let t ← argTypes[0]?; acap P t (ev x)
    | .min, l => amin false (l.map ev)
    | .max, l => amin true (l.map ev)
    | _, _ => none
  | _ => none

def w2 (x : Option (Value × AHeap)) : Option ANext := x.map fun x => .value x.1 x.2

def aeff (P : Program) (ev : Operand → Value) (h : AHeap) (o : Oper) : Option ANext :=
  match o.op with
  | .alloc e => match azero P e with | some z => w2 (anew h z.cells.toList 0) | none => none
  | .box _ x => w2 (anew h (ev x).cells.toList 0)
  | .buildSlice t n parts => w2 (abuildSlice P h t n (parts.toList.map fun p => (p.1, ev p.2)))
  | .store t a x => (astore P h t (ev a) (ev x)).map fun h' => .value undef h'
  | .convert s d x => w2 (aconvert P h s d (ev x))
  | .makeSlice t l c => w2 (amakeSlice P h t (ev l) (ev c))
  | .call c =>
    match c.callee with
    | .builtin b => match b, c.args.toList with
      | .append, [s, x] => w2 (aappend P h c.argTypes (ev s) (ev x))
      | .copy, [d, x] => w2 (acopy P h c.argTypes (ev d) (ev x))
      | _, _ => none
    | .value f =>
      match ev f with
      | .func (.func g) first captured => some (.enter g (first.toList ++ c.args.toList.map ev ++ captured.toList) h)
      | .func (.yield l) first _ => some (.round l (first.toList ++ c.args.toList.map ev))
      | _ => none
    | _ => none
  | _ => none

def okOperand (P : Program) : Operand → Bool
  | .const v => plainV v
  | .global g => Nat.blt g P.globals.size
  | _ => true

def okOper (P : Program) (o : Oper) : Bool :=
  match o.op with
  | .select .. | .defer _ => false
  | op => op.operands.toList.all (okOperand P)

def aop (P : Program) (ev : Operand → Value) (h : AHeap) (o : Oper) : Option ANext :=
  bif okOper P o then
    match apure P ev h o with
    | some v => some (.value v h)
    | none => aeff P ev h o
  else none

def putT (tmps : Tmps) (d : Option Tmp) (v : Value) : Tmps :=
  match d with
  | some d => tmps.set d v
  | none => tmps

/-- Is the slot that is written one of the frame's? -/
def okDst (tmps : Tmps) (d : Option Tmp) : Bool :=
  match d with
  | some d => Nat.blt d tmps.size
  | none => true

/-- What a frame becomes when a call that it made returns. -/
def AFrame.finish (fr : AFrame) (v : Value) : Option AFrame :=
  match fr with
  | ⟨fn, tmps, .ops all k (o :: rest) :: todo, ro, ds, ret⟩ => if okDst tmps o.dst then some ⟨fn, putT tmps o.dst v, .ops all (k + 1) rest :: todo, ro, ds, ret⟩ else none
  | ⟨fn, tmps, .inRangeFunc l :: todo, ro, ds, ret⟩ => some ⟨fn, tmps, .endRangeFunc l :: todo, ro, ds, ret⟩
  | _ => none

def ayielded (ops : Array Oper) (tmps : Tmps) (j : Nat) : Option Bool :=
  match (ops.toList[j]?).bind (·.dst) with
  | some d => if Nat.blt d tmps.size then (match tmps.get d with | .bool b => some b | _ => none) else none
  | none => none

def awanted (ops : Array Oper) (tmps : Tmps) (o : Oper) : Bool :=
  match o.guard with
  | none => true
  | some (j, want) => ayielded ops tmps j == some want

/-- Operations one behind the other, up to the first call. -/
def goOps (P : Program) (all : Array Oper) : Nat → List Oper → Tmps → AHeap → Option (Tmps × AHeap × Nat × List Oper)
  | k, [], tmps, h => some (tmps, h, k, [])
  | k, o :: rest, tmps, h =>
    if okDst tmps o.dst then
      if awanted all tmps o then
        match aop P (aev tmps) h o with
        | some (.value v h') => goOps P all (k + 1) rest (putT tmps o.dst v) h'
        | some _ => some (tmps, h, k, o :: rest)
        | none => none
      else goOps P all (k + 1) rest (putT tmps o.dst undef) h
    else none

/-- Operations that leave the heap alone. -/
def quietOp (o : Oper) : Bool :=
  match o.op with
  | .load .. | .move _ | .assign _ | .pick .. | .indexAddr .. | .index .. | .fieldAddr .. | .field .. | .binOp .. | .unOp .. | .slice .. | .extract .. | .nilCheck _ | .build .. | .makeFunc .. => true
  | .convert .. => true
  | .call { callee := .builtin b, .. } => match b with
    | .len | .cap | .min | .max => true
    | _ => false
  | _ => false

/-- Does what it yields hang on the heap? -/
def isLoad (o : Oper) : Bool :=
  match o.op with
  | .load .. | .slice .. => true
  | _ => false

/-- One operation of a region that draws its order. -/
def canonOne (P : Program) (all : Array Oper) (o : Oper) (tmps : Tmps) (h : AHeap) : Option (Value × AHeap) :=
  if awanted all tmps o then
    if okOper P o then
      if quietOp o then (apure P (aev tmps) h o).map (·, h)
      else match aeff P (aev tmps) h o with
        | some (.value v h') => some (v, h')
        | _ => none
    else none
  else some (undef, h)

def canon (P : Program) (all : Array Oper) : List Oper → Tmps → AHeap → Option (Tmps × AHeap)
  | [], tmps, h => some (tmps, h)
  | o :: rest, tmps, h =>
    if okDst tmps o.dst then
      match canonOne P all o tmps h with
      | some (v, h') => canon P all rest (putT tmps o.dst v) h'
      | none => none
    else none

/-- What must come before: the numbers as bits. -/
def preds (ops : List Oper) : List Nat :=
  ops.foldl (fun acc o => acc ++ [o.after.toList.foldl (fun s e => bif Region.binds .any e then s ||| 2 ^ e.on ||| acc.getD e.on 0 else s) 0]) []

def looks (ops : Array Oper) (o : Oper) : List Tmp :=
  (o.op.operands.toList.filterMap fun | .tmp t => some t | _ => none) ++
  (match o.guard with
   | some (g, _) => ((ops[g]?).bind (·.dst)).toList
   | none => [])

/-- May two operations of a region, the first one earlier in the text, be exchanged only where that changes nothing? -/
def pairOk (ops : Array Oper) (pr : List Nat) (i j : Nat) (oi oj : Oper) : Bool :=
  (pr.getD j 0).testBit i ||
  ((match oi.dst with | some d => !(looks ops oj).contains d && oj.dst != some d | none => true) &&
   (match oj.dst with | some d => !(looks ops oi).contains d | none => true) &&
   (quietOp oi && quietOp oj || quietOp oi && !isLoad oi || quietOp oj && !isLoad oj))

def regionOk (ops : Array Oper) : Bool :=
  let l := ops.toList
  let pr := preds l
  let z := l.zipIdx
  z.all fun (oj, j) =>
    (oj.after.toList.all fun e => !Region.binds .any e || Nat.blt e.on j) &&
    (match oj.guard with | some (g, _) => Nat.blt g j | none => true) &&
    z.all fun (oi, i) => !Nat.blt i j || pairOk ops pr i j oi oj

def rvA (P : Program) (h : AHeap) (tmps : Tmps) : ResultVar → Option Value
  | .tmp t => some (tmps.get t)
  | .cell a t => aload P h t (tmps.get a)

def aresults (P : Program) (fn : Func) (h : AHeap) (tmps : Tmps) : Option Value :=
  match fn.results.toList.mapM (rvA P h tmps) with
  | some [v] => some v
  | some vs => some (.tuple vs.toArray)
  | none => none

inductive AStep where
  | next (s : AState)
  | done (v : Value) (h : AHeap)

def aexitTo (id : Nat) : List AItem → Option (List AItem)
  | .inBlock id' :: k => if id' == id then some k else aexitTo id k
  | _ :: k => aexitTo id k
  | [] => none

def agotoIn (l : Nat) : List AItem → Option (List AItem)
  | .inScope body :: k =>
    match findLabel body l with
    | some rest => some (.code rest :: .inScope body :: k)
    | none => agotoIn l k
  | _ :: k => agotoIn l k
  | [] => none

def aleave (fr : AFrame) (callers : List AFrame) (h : AHeap) (jump : Option Code) : Option AStep :=
  match fr with
  | ⟨fn, tmps, todo, ro, ds, _⟩ =>
  match ro with
  | none => if jump matches none | some .ret then some (.next ⟨⟨fn, tmps, todo, ro, ds, true⟩, callers, h⟩) else none
  | some l =>
    match h.get l, callers, ds with
    | .loop ⟨_, _, lf, lt, lp, la, lb, ld⟩, c :: cs, [] =>
      match c.finish (.bool jump.isNone) with
      | some c' => some (.next ⟨c', cs, h.set l (.loop ⟨if jump.isNone then .ready else .done, jump, lf, lt, lp, la, lb, ld⟩)⟩)
      | none => none
    | _, _, _ => none

def aenter (P : Program) (callers : List AFrame) (h : AHeap) (f : FuncId) (args : List Value) : Option AStep :=
  match P.funcs[f]? with
  | some fn =>
    match fn.body with
    | some body => if Nat.ble args.length fn.ntmps then some (.next ⟨⟨f, ⟨fn.ntmps, Tmps.fill .nil 0 args⟩, [.code body], none, [], false⟩, callers, h⟩) else none
    | none => none
  | none => none

def setParams (tmps : Tmps) : List Tmp → List Value → Option Tmps
  | t :: ts, a :: as => if Nat.blt t tmps.size then setParams (tmps.set t a) ts as else none
  | [], [] => some tmps
  | _, _ => none

def astep (P : Program) (s : AState) : Option AStep :=
  match s with
  | ⟨⟨fn, tmps, todo, ro, ds, true⟩, callers, h⟩ =>
    match ds with
    | r :: ds =>
      match h.get r with
      | .deferred false => some (.next ⟨⟨fn, tmps, todo, ro, ds, true⟩, callers, h.set r (.deferred true)⟩)
      | _ => none
    | [] =>
      match P.funcs[fn]? with
      | some f =>
        match aresults P f h tmps with
        | some v =>
          match callers with
          | [] => some (.done v h)
          | c :: cs => match c.finish v with | some c' => some (.next ⟨c', cs, h⟩) | none => none
        | none => none
      | none => none
  | ⟨⟨fn, tmps, todo, ro, ds, false⟩, callers, h⟩ =>
    let to (todo : List AItem) : Option AStep := some (.next ⟨⟨fn, tmps, todo, ro, ds, false⟩, callers, h⟩)
    let leave (j : Option Code) : Option AStep := aleave ⟨fn, tmps, todo, ro, ds, false⟩ callers h j
    match todo with
    | [] => leave none
    | .inBlock _ :: k | .inScope _ :: k => to k
    | .inLoop body :: k => to (.code body :: .inLoop body :: k)
    | .beginRound :: k =>
      match ro with
      | some l =>
        match h.get l with
        | .loop ⟨.ready, lpd, lf, lt, lp, la, lb, ld⟩ => some (.next ⟨⟨fn, tmps, k, ro, ds, false⟩, callers, h.set l (.loop ⟨.busy, lpd, lf, lt, lp, la, lb, ld⟩)⟩)
        | _ => none
      | none => none
    | .endRangeFunc l :: k =>
      match h.get l with
      | .loop ⟨st, lpd, lf, lt, lp, la, lb, ld⟩ =>
        match st with
        | .busy => none
        | _ => some (.next ⟨⟨fn, tmps, (lpd.map AItem.code).toList ++ k, ro, ds, false⟩, callers, h.set l (.loop ⟨.exhausted, lpd, lf, lt, lp, la, lb, ld⟩)⟩)
      | _ => none
    | .inRangeFunc _ :: _ => none
    | .ops all i l :: k =>
      match goOps P all i l tmps h with
      | none => none
      | some (tmps', h', _, []) => some (.next ⟨⟨fn, tmps', k, ro, ds, false⟩, callers, h'⟩)
      | some (tmps', h', i', o :: rest) =>
        match aop P (aev tmps') h' o with
        | some (.enter f args h2) => aenter P (⟨fn, tmps', .ops all i' (o :: rest) :: k, ro, ds, false⟩ :: callers) h2 f args
        | some (.round l args) =>
          match h'.get l with
          | .loop ⟨_, _, lf, lt, lp, la, lb, _⟩ =>
            match setParams lt lp args with
            | some lt' => some (.next ⟨⟨lf, lt', [.code la, .beginRound, .code lb], some l, [], false⟩, ⟨fn, tmps', .ops all i' (o :: rest) :: k, ro, ds, false⟩ :: callers, h'⟩)
            | none => none
          | _ => none
        | _ => none
    | .code c :: k =>
      match c with
      | .ret => leave (some .ret)
      | .skip => to k
      | .label _ => to k
      | .seq a b => to (.code a :: .code b :: k)
      | .cond c thn els => match aev tmps c with | .bool b => to (.code (bif b then thn else els) :: k) | _ => none
      | .block id body => to (.code body :: .inBlock id :: k)
      | .loop body => to (.code body :: .inLoop body :: k)
      | .scope body => to (.code body :: .inScope body :: k)
      | .exit id => match aexitTo id k with | some k' => to k' | none => leave (some (.exit id))
      | .goto l => match agotoIn l k with | some k' => to k' | none => leave (some (.goto l))
      | .rangeFunc f params assign body =>
        if okOperand P f = false then none else
        match aev tmps f with
        | .func (.func g) first captured =>
          match ro with
          | none =>
            aenter P (⟨fn, tmps, .inRangeFunc (h.n + 1) :: k, ro, h.n :: ds, false⟩ :: callers)
              ((h.push (.deferred false)).push (.loop ⟨.ready, none, fn, tmps, params.toList, assign, body, h.n⟩)) g (first.toList ++ [.func (.yield (h.n + 1)) #[] #[]] ++ captured.toList)
          | some l =>
            match h.get l with
            | .loop ⟨_, _, _, _, _, _, _, d⟩ =>
              aenter P (⟨fn, tmps, .inRangeFunc h.n :: k, ro, ds, false⟩ :: callers)
                (h.push (.loop ⟨.ready, none, fn, tmps, params.toList, assign, body, d⟩)) g (first.toList ++ [.func (.yield h.n) #[] #[]] ++ captured.toList)
            | _ => none
        | _ => none
      | .region _ ops draw =>
        bif draw then
          bif regionOk ops then
            match canon P ops ops.toList tmps h with
            | some (tmps', h') => some (.next ⟨⟨fn, tmps', k, ro, ds, false⟩, callers, h'⟩)
            | none => none
          else none
        else to (.ops ops 0 ops.toList :: k)
      | .refuse _ => none

def arun (P : Program) : Nat → AState → Option (Value × AHeap)
  | 0, _ => none
  | n + 1, s =>
    match astep P s with
    | some (.next s') => arun P n s'
    | some (.done v h) => some (v, h)
    | none => none

/-- For trying: where a run stops. -/
def atrace (P : Program) : Nat → AState → Nat × AState
  | 0, s => (0, s)
  | n + 1, s =>
    match astep P s with
    | some (.next s') => atrace P n s'
    | some (.done _ _) => (n, s)
    | none => (n, s)

def enterState (P : Program) (f : FuncId) (args : List Value) (h : AHeap) : AState :=
  ⟨⟨f, ⟨((P.funcs[f]?).map (·.ntmps)).getD 0, Tmps.fill .nil 0 args⟩, [.code (((P.funcs[f]?).bind (·.body)).getD .skip)], none, [], false⟩, [], h⟩

end Go.Am
