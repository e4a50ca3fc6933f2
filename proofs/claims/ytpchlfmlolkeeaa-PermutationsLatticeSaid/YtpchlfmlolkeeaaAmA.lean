/-
  The abstract machine: a run of the model's machine without its tape, over a heap of its own. Definitions alone.
-/
import Derived.WalkKit
import Derived.AtR
import Derived.Orders
import Derived.Laws.StructEq
set_option linter.unusedSimpArgs false
set_option linter.unusedVariables false
namespace Go.Am
open Go

/-- What stands for a capacity that is not known. -/
def big : Nat := 1152921504606846976

/-- A binary tree with a place for each number. -/
inductive Tr (α : Type) where
  | nil
  | node (l : Tr α) (v : α) (r : Tr α)

def Tr.get {α : Type} (d : α) : Tr α → Nat → α
  | .nil, _ => d
  | .node l v r, n => bif Nat.beq n 0 then v else bif Nat.beq (n % 2) 1 then l.get d (n / 2) else r.get d (n / 2 - 1)

def Tr.set {α : Type} (d : α) : Nat → Tr α → Nat → α → Tr α
  | 0, t, _, _ => t
  | f + 1, .nil, n, x => bif Nat.beq n 0 then .node .nil x .nil else bif Nat.beq (n % 2) 1 then .node (Tr.set d f .nil (n / 2) x) d .nil else .node .nil d (Tr.set d f .nil (n / 2 - 1) x)
  | f + 1, .node l v r, n, x => bif Nat.beq n 0 then .node l x r else bif Nat.beq (n % 2) 1 then .node (Tr.set d f l (n / 2) x) v r else .node l v (Tr.set d f r (n / 2 - 1) x)

/-- The temporaries of a frame, and how many there are. -/
structure Tmps where
  size : Nat
  tr : Tr Value

def Tmps.get (t : Tmps) (i : Nat) : Value := t.tr.get undef i

/-- The place must lie in the frame. -/
def Tmps.set (t : Tmps) (i : Nat) (v : Value) : Tmps := ⟨t.size, t.tr.set undef (i + 1) i v⟩

def Tmps.fill (t : Tr Value) (i : Nat) : List Value → Tr Value
  | [] => t
  | v :: vs => Tmps.fill (t.set undef (i + 1) i v) (i + 1) vs

structure ALoop where
  state : LoopState
  pending : Option Code
  fn : FuncId
  tmps : Tmps
  params : List Tmp
  assign : Code
  body : Code
  defers : Nat

/-- A range over a function, of whose frame some slots are known. -/
structure PLoop where
  state : LoopState
  pending : Option Code
  n : Nat
  t : List (Nat × Value)
  params : List Tmp
  assign : Code
  body : Code

inductive AObj where
  | lp (l : PLoop)
  | cells (c : List Value) (esz : Nat)
  | ro (c : List Value)
  | dead
  | iter (s : ByteArray) (pos : Nat)
  | loop (l : ALoop)
  | deferred (taken : Bool)

structure AHeap where
  n : Nat
  tr : Tr AObj

def AHeap.get (h : AHeap) (b : Nat) : AObj := h.tr.get .dead b

def AHeap.set (h : AHeap) (b : Nat) (o : AObj) : AHeap := ⟨h.n, h.tr.set .dead (b + 1) b o⟩

def AHeap.push (h : AHeap) (o : AObj) : AHeap := ⟨h.n + 1, h.tr.set .dead (h.n + 1) h.n o⟩

inductive AItem where
  | code (c : Code)
  | inBlock (id : Nat)
  | inLoop (body : Code)
  | inScope (body : Code)
  | ops (all : Array Oper) (k : Nat) (rest : List Oper)
  | inRangeFunc (l : Nat)
  | endRangeFunc (l : Nat)
  | beginRound

structure AFrame where
  fn : FuncId
  tmps : Tmps
  todo : List AItem
  roundOf : Option Nat
  defers : List Nat
  ret : Bool

structure AState where
  cur : AFrame
  callers : List AFrame
  h : AHeap

def isCell : Value → Bool
  | .agg _ | .tuple _ => false
  | _ => true

def AObj.row : AObj → Option (List Value)
  | .cells c _ => some c
  | .ro c => some c
  | _ => none

def aread (h : AHeap) (b i : Nat) : Option Value := (h.get b).row.bind (·[i]?)

/-- n cells from place i on. -/
def takeAt (c : List Value) (i n : Nat) : Option (List Value) :=
  if i + n ≤ c.length then some ((c.drop i).take n) else none

def areadN (h : AHeap) (b i n : Nat) : Option (List Value) := (h.get b).row.bind (takeAt · i n)

def setAll (c : List Value) (i : Nat) : List Value → List Value
  | [] => c
  | v :: vs => setAll (c.set i v) (i + 1) vs

def awriteN (h : AHeap) (b i : Nat) (vs : List Value) : Option AHeap :=
  match h.get b with
  | .cells c e => if i + vs.length ≤ c.length && vs.all isCell then some (h.set b (.cells (setAll c i vs) e)) else none
  | _ => none

def aev (tmps : Tmps) : Operand → Value
  | .tmp t => tmps.get t
  | .const v => v
  | .global g => .pointer (some ⟨g, 0, none⟩)
  | .func f => .func (.func f) #[] #[]

def alive (h : AHeap) (b : Nat) : Bool :=
  match h.get b with
  | .cells _ _ => true
  | _ => false

def aisAgg (P : Program) (t : TypeId) : Option Bool :=
  match P.underlying t with
  | some (.struct _) | some (.array _ _) => some true
  | some _ => some false
  | none => none

def asize (P : Program) (t : TypeId) : Option Nat := (P.info? t).map (·.size)

def plainV : Value → Bool
  | .bool _ | .int .. | .string _ | .nilFunc | .nilIface | .pointer none => true
  | .slice none _ c => Nat.blt c big
  | _ => false

/-- The zero value of a type, if its cells are plain. -/
def azero (P : Program) (t : TypeId) : Option Value :=
  match (P.info? t).bind (·.zero) with
  | some (.tuple _) => none
  | some z => if z.cells.toList.all plainV then some z else none
  | none => none

def aload (P : Program) (h : AHeap) (t : TypeId) : Value → Option Value
  | .pointer (some ⟨b, i, none⟩) => do
    if ← aisAgg P t then
      let n ← asize P t
      let cs ← areadN h b i n
      some (.agg cs.toArray)
    else aread h b i
  | _ => none

def astore (P : Program) (h : AHeap) (t : TypeId) (a v : Value) : Option AHeap :=
  match a with
  | .pointer (some ⟨b, i, none⟩) => do
    if (asize P t) == some v.cells.size then awriteN h b i v.cells.toList else none
  | _ => none

def anew (h : AHeap) (c : List Value) (esz : Nat) : Option (Value × AHeap) :=
  some (.pointer (some ⟨h.n, 0, none⟩), h.push (.cells c esz))

def abuild (P : Program) (t : TypeId) (parts : List (Nat × Value)) : Option Value := do
  let _ ← azero P t
  (P.built t parts).map .agg

def abuildSlice (P : Program) (h : AHeap) (t : TypeId) (len : Nat) (parts : List (Nat × Value)) : Option (Value × AHeap) :=
  match P.underlying t with
  | some (.slice elem) =>
    match asize P elem, azero P elem with
    | some size, some z =>
      if len * size = 0 ∧ len < big then (match parts with | [] => some (.slice (some ⟨h.n, 0, none⟩) len len, h.push (.cells [] 0)) | _ => none) else
      if len ≥ big || len * size > 1000000 || z.cells.size = 0 then none else
      match Instr.fill (fun i => some (i * size, size)) (madeCells z.cells (len * size)) parts with
      | some cells => some (.slice (some ⟨h.n, 0, none⟩) len len, h.push (.cells cells.toList 0))
      | none => none
    | _, _ => none
  | _ => none

def afieldAddr (P : Program) (s : TypeId) (a : Value) (field : Nat) : Option Value :=
  match P.underlying s, a with
  | some (.struct fields), .pointer (some ⟨b, i, none⟩) => do
    let f ← fields[field]?
    let n ← asize P f.type
    if n = 0 then none else some (.pointer (some ⟨b, i + f.offset, none⟩))
  | _, _ => none

def apart (P : Program) (t : TypeId) (cs : Array Value) (off : Nat) : Option Value := do
  if ← aisAgg P t then
    let n ← asize P t
    some (.agg (cs.extract off (off + n)))
  else cs[off]?

def afield (P : Program) (t : TypeId) (x : Value) (field : Nat) : Option Value :=
  match P.underlying t, x with
  | some (.struct fields), .agg cs => do
    let f ← fields[field]?
    apart P f.type cs f.offset
  | _, _ => none

def aindexAddr (P : Program) (t : TypeId) (x ix : Value) : Option Value :=
  match P.underlying t, x, ix with
  | some (.array len elem), .pointer (some ⟨b, o, none⟩), .int _ i => do
    let n ← asize P elem
    if 0 ≤ i ∧ i < len then some (.pointer (some ⟨b, o + i.toNat * n, none⟩)) else none
  | some (.slice elem), .slice (some ⟨b, o, none⟩) len _, .int _ i => do
    let n ← asize P elem
    if 0 ≤ i ∧ i < len then some (.pointer (some ⟨b, o + i.toNat * n, none⟩)) else none
  | _, _, _ => none

def aindex (P : Program) (t : TypeId) (x ix : Value) : Option Value :=
  match P.underlying t, x, ix with
  | some (.array len elem), .agg cs, .int _ i => do
    let n ← asize P elem
    if 0 ≤ i ∧ i < len then apart P elem cs (i.toNat * n) else none
  | some .string, .string s, .int _ i =>
    if 0 ≤ i then (s[i.toNat]?).map fun b => .int .u8 b.toNat else none
  | _, _, _ => none

/-- A bound of a slice expression: none of the text: the default. -/
def abound (x : Option Value) (dflt most : Nat) : Option Nat :=
  match x with
  | none => if dflt ≤ most then some dflt else none
  | some (.int _ i) => if 0 ≤ i ∧ i ≤ most then some i.toNat else none
  | some _ => none

def ahi (hi mx : Option Value) (len m : Nat) : Option Nat :=
  match hi, mx with
  | some _, _ => abound hi len m
  | none, none => some len
  | none, some _ => none

def eszOf (h : AHeap) (b : Nat) : Option Nat :=
  match h.get b with
  | .cells _ e => some e
  | _ => none

def aslice (P : Program) (h : AHeap) (t : TypeId) (x : Value) (lo hi mx : Option Value) : Option Value :=
  match P.underlying t, x with
  | some .string, .string s => do
    if mx.isSome then none
    let hh ← ahi hi none s.size s.size
    let l ← abound lo 0 hh
    some (.string (s.extract l hh))
  | some (.slice elem), .slice a len cap => do
    let size ← asize P elem
    if cap < big then
      let m ← abound mx cap cap
      let hh ← ahi hi mx len m
      let l ← abound lo 0 hh
      match a with
      | none => some (.slice none (hh - l) (m - l))
      | some ⟨b, o, none⟩ => some (.slice (some ⟨b, if m = l then o else o + l * size, none⟩) (hh - l) (m - l))
      | _ => none
    else if cap = big ∧ len < big then
      -- with a capacity that is not known nothing beyond the length is asked for
      let m ← abound mx len len
      let hh ← ahi hi mx len m
      let l ← abound lo 0 hh
      match a with
      | some ⟨b, o, none⟩ =>
        if mx.isSome then some (.slice (some ⟨b, if m = l then o else o + l * size, none⟩) (hh - l) (m - l))
        else if l = 0 then some (.slice (some ⟨b, o, none⟩) hh big)
        else if l < len ∧ eszOf h b = some size then some (.slice (some ⟨b, o + l * size, none⟩) (hh - l) big)
        else if l = len then some (.slice none 0 big)
        else none
      | none => if len = 0 then some (.slice none 0 (if mx.isSome then big + 1 else big)) else none
      | _ => none
    else if cap = big + 1 ∧ len = 0 then
      let m ← abound mx 0 0
      let hh ← ahi hi mx 0 m
      let _ ← abound lo 0 hh
      match a with
      | none => some (.slice none 0 (big + 1))
      | _ => none
    else none
  | some (.array n elem), .pointer (some ⟨b, o, none⟩) => do
    let size ← asize P elem
    if n < big then
      let m ← abound mx n n
      let hh ← ahi hi mx n m
      let l ← abound lo 0 hh
      some (.slice (some ⟨b, if m = l then o else o + l * size, none⟩) (hh - l) (m - l))
    else none
  | _, _ => none

def asame : TypeDesc → Value → Value → Option Bool
  | .int _, .int k a, .int k' b => if k = k' then some (a == b) else none
  | .bool, .bool a, .bool b => some (a == b)
  | .string, .string a, .string b => some (a == b)
  | _, _, _ => none

def aeqFields (P : Program) (eq : TypeId → Value → Value → Option Bool) (xs ys : Array Value) : List Field → Option Bool
  | [] => some true
  | f :: fs =>
    if f.name = "_" then none else
    match apart P f.type xs f.offset, apart P f.type ys f.offset with
    | some a, some b =>
      match eq f.type a b with
      | some true => aeqFields P eq xs ys fs
      | some false => some false
      | none => none
    | _, _ => none

/-- Is a slice nil? -/
def nilS (a : Option Addr) (c : Nat) : Bool := a.isNone && Nat.blt c big

/-- Equality of structs whose parts are plain. -/
def aequal (P : Program) : Nat → TypeId → Value → Value → Option Bool
  | 0, _, _, _ => none
  | d + 1, t, x, y =>
    match P.underlying t, x, y with
    | some (.struct fields), .agg xs, .agg ys => if P.stoodInHeld t then none else aeqFields P (aequal P d) xs ys fields.toList
    | some (.slice _), .slice a _ p, .slice b _ q => if nilS a p then some (nilS b q) else if nilS b q then some false else none
    | some (.func ..), .nilFunc, .nilFunc => some true
    | some (.func ..), .nilFunc, .func .. => some false
    | some (.func ..), .func .., .nilFunc => some false
    | some (.pointer _), .pointer none, .pointer b => some b.isNone
    | some (.pointer _), .pointer _, .pointer none => some false
    | some d, x, y => asame d x y
    | none, _, _ => none

def noGuard (P : Program) (t : TypeId) : Value → Bool
  | .agg _ => !P.eqGuardType P.depth t
  | .nilIface => false
  | _ => true

def abinOp (P : Program) (op : BinOp) (t : TypeId) (x y : Value) : Option Value :=
  match op, x, y with
  | .shl, .int k a, .int _ b => if b < 0 then none else some (.int k (k.wrap (a * 2 ^ min b.toNat k.bits)))
  | .shr, .int k a, .int _ b => if b < 0 then none else some (.int k (a.fdiv (2 ^ min b.toNat k.bits)))
  | _, .int k a, .int k' b =>
    if k ≠ k' then none else
    match op with
    | .add => some (.int k (k.wrap (a + b)))
    | .sub => some (.int k (k.wrap (a - b)))
    | .mul => some (.int k (k.wrap (a * b)))
    | .quo => if b = 0 then none else some (.int k (k.wrap (a.tdiv b)))
    | .rem => if b = 0 then none else some (.int k (a.tmod b))
    | .and => some (.int k (k.wrap (BitVec.ofInt k.bits a &&& BitVec.ofInt k.bits b).toNat))
    | .or => some (.int k (k.wrap (BitVec.ofInt k.bits a ||| BitVec.ofInt k.bits b).toNat))
    | .xor => some (.int k (k.wrap (BitVec.ofInt k.bits a ^^^ BitVec.ofInt k.bits b).toNat))
    | .andNot => some (.int k (k.wrap (BitVec.ofInt k.bits a &&& ~~~ BitVec.ofInt k.bits b).toNat))
    | .eql => some (.bool (a == b))
    | .neq => some (.bool (a != b))
    | .lss => some (.bool (a < b))
    | .leq => some (.bool (a ≤ b))
    | .gtr => some (.bool (a > b))
    | .geq => some (.bool (a ≥ b))
    | _ => none
  | _, .string a, .string b =>
    match op with
    | .add => if ((a.size + b.size : Nat) : Int) > IntKind.i64.max then none else some (.string (a ++ b))
    | .eql => some (.bool (a.toList == b.toList))
    | .neq => some (.bool (!(a.toList == b.toList)))
    | .lss => some (.bool (Op.bytesLess a.toList b.toList))
    | _ => none
  | .eql, x, y => if noGuard P t x then (aequal P 100 t x y).map .bool else none
  | .neq, x, y => if noGuard P t x then (aequal P 100 t x y).map fun r => .bool (!r) else none
  | _, _, _ => none

def aunOp (op : UnOp) (x : Value) : Option Value :=
  match op, x with
  | .neg, .int k n => some (.int k (k.wrap (0 - n)))
  | .xor, .int k n => some (.int k (k.wrap (BitVec.ofInt k.bits (if k.signed then -1 else k.max) ^^^ BitVec.ofInt k.bits n).toNat))
  | .not, .bool b => some (.bool !b)
  | _, _ => none

def toBytes : List Value → Option (List UInt8)
  | [] => some []
  | .int .u8 n :: r => (toBytes r).map (UInt8.ofNat n.toNat :: ·)
  | _ => none

def aconvert (P : Program) (h : AHeap) (src dst : TypeId) (x : Value) : Option (Value × AHeap) :=
  match P.underlying src, P.underlying dst, x with
  | some _, some (.int k), .int _ n => some (.int k (k.wrap n), h)
  | some _, some .string, .string s => some (.string s, h)
  | some .string, some (.slice e), .string s =>
    match P.underlying e with
    | some (.int .u8) => some (.slice (some ⟨h.n, 0, none⟩) s.size big, h.push (.cells (s.data.toList.map fun b => .int .u8 b.toNat) 1))
    | _ => none
  | some (.slice e), some .string, .slice a len _ =>
    match P.underlying e, a with
    | some (.int .u8), none => some (.string .empty, h)
    | some (.int .u8), some ⟨b, o, none⟩ => do
      let cs ← areadN h b o len
      let l ← toBytes cs
      some (.string ⟨l.toArray⟩, h)
    | _, _ => none
  | _, _, _ => none

def amakeSlice (P : Program) (h : AHeap) (t : TypeId) (len cap : Value) : Option (Value × AHeap) :=
  match P.underlying t, len, cap with
  | some (.slice elem), .int _ l, .int _ c =>
    match P.info? elem, azero P elem with
    | some i, some z =>
      if l < 0 || l > c || c > 140737488355328 || i.bytes * c.toNat > 140737488355328 || z.cells.size = 0 then none else
      some (.slice (some ⟨h.n, 0, none⟩) l.toNat c.toNat, h.push (.cells (madeCells z.cells (c.toNat * i.size)).toList 0))
    | _, _ => none
  | _, _, _ => none

/-- The cells of what is appended. -/
def firstOf (h : AHeap) (size n : Nat) : Value → Option (List Value)
  | .slice (some ⟨b, o, none⟩) _ _ => areadN h b o (n * size)
  | .slice none _ _ => some []
  | .string s => some (((s.extract 0 n).data.map fun b => .int .u8 b.toNat).toList)
  | _ => none

def lenOf : Value → Option Nat
  | .slice _ n _ => some n
  | .string s => some s.size
  | _ => none

/-- Is a value of the type no number? (What append appends.) -/
def isIntT : TypeDesc → Bool
  | .slice _ | .string => false
  | _ => true

/-- A store of cells that may be none. -/
def awriteAt (h : AHeap) (base : Option Addr) (k : Nat) (vs : List Value) : Option AHeap :=
  match vs, base with
  | [], _ => some h
  | vs, some ⟨b, o, none⟩ => awriteN h b (o + k) vs
  | _, _ => none

def aappend (P : Program) (h : AHeap) (argTypes : Array TypeId) (s x : Value) : Option (Value × AHeap) :=
  match argTypes[0]?, argTypes[1]? with
  | some st, some xt =>
    match P.underlying st, P.underlying xt, s with
    | some (.slice elem), some xd, .slice base sLen sCap =>
      match P.info? elem, azero P elem, lenOf x with
      | some i, some z, some n =>
        if isIntT xd || i.size = 0 || i.bytes = 0 || z.cells.size ≠ i.size || (sLen + n) * i.bytes > 140737488355328 then none else
        match firstOf h i.size n x with
        | none => none
        | some new =>
          if new.length ≠ n * i.size then none else
          if sCap < big then
            if sLen + n ≤ sCap then (awriteAt h base (sLen * i.size) new).map fun h' => (.slice base (sLen + n) sCap, h')
            else
              match firstOf h i.size sLen s with
              | some old => if old.length = sLen * i.size then some (.slice (some ⟨h.n, 0, none⟩) (sLen + n) big, h.push (.cells (old ++ new) i.size)) else none
              | none => none
          else if sCap = big then
            if n = 0 then (if new = [] then some (s, h) else none)
            else
              match base with
              | some ⟨b, o, none⟩ =>
                match areadN h b o (sLen * i.size), eszOf h b with
                | some old, some e => if e = i.size ∧ new.all isCell = true then some (.slice (some ⟨h.n, 0, none⟩) (sLen + n) big, (h.set b .dead).push (.cells (old ++ new) i.size)) else none
                | _, _ => none
              | _ => none
          else if sCap = big + 1 ∧ sLen = 0 then
            match base with
            | none => if n = 0 then (if new = [] then some (s, h) else none) else some (.slice (some ⟨h.n, 0, none⟩) n big, h.push (.cells new i.size))
            | _ => none
          else none
      | _, _, _ => none
    | _, _, _ => none
  | _, _ => none

def acopy (P : Program) (h : AHeap) (argTypes : Array TypeId) (d x : Value) : Option (Value × AHeap) :=
  match argTypes[0]? with
  | some dt =>
    match P.underlying dt, d with
    | some (.slice elem), .slice base dLen _ =>
      match asize P elem, lenOf x with
      | some size, some m =>
        match firstOf h size (Nat.min m dLen) x with
        | some new => (awriteAt h base 0 new).map fun h' => (.int .i64 (Nat.min m dLen), h')
        | none => none
      | _, _ => none
    | _, _ => none
  | none => none

def alen (P : Program) (t : TypeId) (x : Value) : Option Value :=
  match P.underlying t, x with
  | some .string, .string s => some (.int .i64 s.size)
  | some (.array n _), _ => some (.int .i64 n)
  | some (.slice _), .slice _ n _ => some (.int .i64 n)
  | _, _ => none

def acap (P : Program) (t : TypeId) (x : Value) : Option Value :=
  match P.underlying t, x with
  | some (.slice _), .slice _ _ n => if n < big then some (.int .i64 n) else if n = big + 1 then some (.int .i64 0) else none
  | some (.array n _), _ => some (.int .i64 n)
  | _, _ => none

def amin (mx : Bool) : List Value → Option Value
  | [] => none
  | x :: r => r.foldlM (fun a b => match a, b with
    | .int k p, .int _ q => some (.int k (if mx then (if q > p then q else p) else (if q < p then q else p)))
    | _, _ => none) x

def abuiltin (P : Program) (h : AHeap) (b : Builtin) (argTypes : Array TypeId) (args : List Value) : Option (Value × AHeap) :=
  match b, args with
  | .append, [s, x] => aappend P h argTypes s x
  | .copy, [d, x] => acopy P h argTypes d x
  | .len, [x] => do let t ← argTypes[0]?; (alen P t x).map (·, h)
  | .cap, [x] => do let t ← argTypes[0]?; (acap P t x).map (·, h)
  | .min, l => (amin false l).map (·, h)
  | .max, l => (amin true l).map (·, h)
  | _, _ => none

inductive ANext where
  | value (v : Value) (h : AHeap)
  | enter (f : FuncId) (args : List Value) (h : AHeap)
  | round (l : Nat) (args : List Value)

/-- An operation that leaves the heap alone, and yields one value. -/
def apure (P : Program) (ev : Operand → Value) (h : AHeap) (o : Oper) : Option Value :=
  match o.op with
  | .move x | .assign x => some (ev x)
  | .pick c a b => match ev c with | .bool t => some (if t then ev a else ev b) | _ => none
  | .build t parts => abuild P t (parts.toList.map fun p => (p.1, ev p.2))
  | .load t a => aload P h t (ev a)
  | .nilCheck x => match ev x with | .pointer (some a) => some (.pointer (some a)) | _ => none
  | .binOp op t x y _ => abinOp P op t (ev x) (ev y)
  | .unOp op _ x => aunOp op (ev x)
  | .convert s d x => match P.underlying s, P.underlying d, ev x with
    | some _, some (.int k), .int _ n => some (.int k (k.wrap n))
    | some _, some .string, .string s => some (.string s)
    | _, _, _ => none
  | .slice t x lo hi mx => aslice P h t (ev x) (lo.map ev) (hi.map ev) (mx.map ev)
  | .fieldAddr s x f => afieldAddr P s (ev x) f
  | .field t x f => afield P t (ev x) f
  | .indexAddr t x i => aindexAddr P t (ev x) (ev i)
  | .index t x i => aindex P t (ev x) (ev i)
  | .extract t i => match ev t with | .tuple vs => vs[i]? | _ => none
  | .makeFunc fn first captured => match fn with
    | .func f => some (.func (.func f) (first.map ev) (captured.map ev))
    | _ => none
  | .call { callee := .builtin b, args, argTypes } =>
    match b, args.toList with
    | .len, [x] => do let t ← argTypes[0]?; alen P t (ev x)
    | .cap, [x] => do let t ← argTypes[0]?; acap P t (ev x)
    | .min, l => amin false (l.map ev)
    | .max, l => amin true (l.map ev)
    | _, _ => none
  | _ => none

def w2 (x : Option (Value × AHeap)) : Option ANext := x.map fun x => .value x.1 x.2

def aeff (P : Program) (ev : Operand → Value) (h : AHeap) (o : Oper) : Option ANext :=
  match o.op with
  | .alloc e => match azero P e with | some z => w2 (anew h z.cells.toList 0) | none => none
  | .box _ x => w2 (anew h (ev x).cells.toList 0)
  | .buildSlice t n parts => w2 (abuildSlice P h t n (parts.toList.map fun p => (p.1, ev p.2)))
  | .store t a x => (astore P h t (ev a) (ev x)).map fun h' => .value undef h'
  | .convert s d x => w2 (aconvert P h s d (ev x))
  | .makeSlice t l c => w2 (amakeSlice P h t (ev l) (ev c))
  | .call c =>
    match c.callee with
    | .builtin b => match b, c.args.toList with
      | .append, [s, x] => w2 (aappend P h c.argTypes (ev s) (ev x))
      | .copy, [d, x] => w2 (acopy P h c.argTypes (ev d) (ev x))
      | _, _ => none
    | .value f =>
      match ev f with
      | .func (.func g) first captured => some (.enter g (first.toList ++ c.args.toList.map ev ++ captured.toList) h)
      | .func (.yield l) first _ => some (.round l (first.toList ++ c.args.toList.map ev))
      | _ => none
    | _ => none
  | _ => none

def okOperand (P : Program) : Operand → Bool
  | .const v => plainV v
  | .global g => Nat.blt g P.globals.size
  | _ => true

def okOper (P : Program) (o : Oper) : Bool :=
  match o.op with
  | .select .. | .defer _ => false
  | op => op.operands.toList.all (okOperand P)

def aop (P : Program) (ev : Operand → Value) (h : AHeap) (o : Oper) : Option ANext :=
  bif okOper P o then
    match apure P ev h o with
    | some v => some (.value v h)
    | none => aeff P ev h o
  else none

def putT (tmps : Tmps) (d : Option Tmp) (v : Value) : Tmps :=
  match d with
  | some d => tmps.set d v
  | none => tmps

/-- Is the slot that is written one of the frame's? -/
def okDst (tmps : Tmps) (d : Option Tmp) : Bool :=
  match d with
  | some d => Nat.blt d tmps.size
  | none => true

/-- What a frame becomes when a call that it made returns. -/
def AFrame.finish (fr : AFrame) (v : Value) : Option AFrame :=
  match fr with
  | ⟨fn, tmps, .ops all k (o :: rest) :: todo, ro, ds, ret⟩ => if okDst tmps o.dst then some ⟨fn, putT tmps o.dst v, .ops all (k + 1) rest :: todo, ro, ds, ret⟩ else none
  | ⟨fn, tmps, .inRangeFunc l :: todo, ro, ds, ret⟩ => some ⟨fn, tmps, .endRangeFunc l :: todo, ro, ds, ret⟩
  | _ => none

def ayielded (ops : Array Oper) (tmps : Tmps) (j : Nat) : Option Bool :=
  match (ops.toList[j]?).bind (·.dst) with
  | some d => if Nat.blt d tmps.size then (match tmps.get d with | .bool b => some b | _ => none) else none
  | none => none

def awanted (ops : Array Oper) (tmps : Tmps) (o : Oper) : Bool :=
  match o.guard with
  | none => true
  | some (j, want) => ayielded ops tmps j == some want

/-- Operations one behind the other, up to the first call. -/
def goOps (P : Program) (all : Array Oper) : Nat → List Oper → Tmps → AHeap → Option (Tmps × AHeap × Nat × List Oper)
  | k, [], tmps, h => some (tmps, h, k, [])
  | k, o :: rest, tmps, h =>
    if okDst tmps o.dst then
      if awanted all tmps o then
        match aop P (aev tmps) h o with
        | some (.value v h') => goOps P all (k + 1) rest (putT tmps o.dst v) h'
        | some _ => some (tmps, h, k, o :: rest)
        | none => none
      else goOps P all (k + 1) rest (putT tmps o.dst undef) h
    else none

/-- Operations that leave the heap alone. -/
def quietOp (o : Oper) : Bool :=
  match o.op with
  | .load .. | .move _ | .assign _ | .pick .. | .indexAddr .. | .index .. | .fieldAddr .. | .field .. | .binOp .. | .unOp .. | .slice .. | .extract .. | .nilCheck _ | .build .. | .makeFunc .. => true
  | .convert .. => true
  | .call { callee := .builtin b, .. } => match b with
    | .len | .cap | .min | .max => true
    | _ => false
  | _ => false

/-- Does what it yields hang on the heap? -/
def isLoad (o : Oper) : Bool :=
  match o.op with
  | .load .. | .slice .. => true
  | _ => false

/-- One operation of a region that draws its order. -/
def canonOne (P : Program) (all : Array Oper) (o : Oper) (tmps : Tmps) (h : AHeap) : Option (Value × AHeap) :=
  if awanted all tmps o then
    if okOper P o then
      if quietOp o then (apure P (aev tmps) h o).map (·, h)
      else match aeff P (aev tmps) h o with
        | some (.value v h') => some (v, h')
        | _ => none
    else none
  else some (undef, h)

def canon (P : Program) (all : Array Oper) : List Oper → Tmps → AHeap → Option (Tmps × AHeap)
  | [], tmps, h => some (tmps, h)
  | o :: rest, tmps, h =>
    if okDst tmps o.dst then
      match canonOne P all o tmps h with
      | some (v, h') => canon P all rest (putT tmps o.dst v) h'
      | none => none
    else none

/-- What must come before: the numbers as bits. -/
def preds (ops : List Oper) : List Nat :=
  ops.foldl (fun acc o => acc ++ [o.after.toList.foldl (fun s e => bif Region.binds .any e then s ||| 2 ^ e.on ||| acc.getD e.on 0 else s) 0]) []

def looks (ops : Array Oper) (o : Oper) : List Tmp :=
  (o.op.operands.toList.filterMap fun | .tmp t => some t | _ => none) ++
  (match o.guard with
   | some (g, _) => ((ops[g]?).bind (·.dst)).toList
   | none => [])

/-- May two operations of a region, the first one earlier in the text, be exchanged only where that changes nothing? -/
def pairOk (ops : Array Oper) (pr : List Nat) (i j : Nat) (oi oj : Oper) : Bool :=
  (pr.getD j 0).testBit i ||
  ((match oi.dst with | some d => !(looks ops oj).contains d && oj.dst != some d | none => true) &&
   (match oj.dst with | some d => !(looks ops oi).contains d | none => true) &&
   (quietOp oi && quietOp oj || quietOp oi && !isLoad oi || quietOp oj && !isLoad oj))

def regionOk (ops : Array Oper) : Bool :=
  let l := ops.toList
  let pr := preds l
  let z := l.zipIdx
  z.all fun (oj, j) =>
    (oj.after.toList.all fun e => !Region.binds .any e || Nat.blt e.on j) &&
    (match oj.guard with | some (g, _) => Nat.blt g j | none => true) &&
    z.all fun (oi, i) => !Nat.blt i j || pairOk ops pr i j oi oj

def rvA (P : Program) (h : AHeap) (tmps : Tmps) : ResultVar → Option Value
  | .tmp t => some (tmps.get t)
  | .cell a t => aload P h t (tmps.get a)

def aresults (P : Program) (fn : Func) (h : AHeap) (tmps : Tmps) : Option Value :=
  match fn.results.toList.mapM (rvA P h tmps) with
  | some [v] => some v
  | some vs => some (.tuple vs.toArray)
  | none => none

inductive AStep where
  | next (s : AState)
  | done (v : Value) (h : AHeap)

def aexitTo (id : Nat) : List AItem → Option (List AItem)
  | .inBlock id' :: k => if id' == id then some k else aexitTo id k
  | _ :: k => aexitTo id k
  | [] => none

def agotoIn (l : Nat) : List AItem → Option (List AItem)
  | .inScope body :: k =>
    match findLabel body l with
    | some rest => some (.code rest :: .inScope body :: k)
    | none => agotoIn l k
  | _ :: k => agotoIn l k
  | [] => none

def aleave (fr : AFrame) (callers : List AFrame) (h : AHeap) (jump : Option Code) : Option AStep :=
  match fr with
  | ⟨fn, tmps, todo, ro, ds, _⟩ =>
  match ro with
  | none => if jump matches none | some .ret then some (.next ⟨⟨fn, tmps, todo, ro, ds, true⟩, callers, h⟩) else none
  | some l =>
    match h.get l, callers, ds with
    | .loop ⟨_, _, lf, lt, lp, la, lb, ld⟩, c :: cs, [] =>
      match c.finish (.bool jump.isNone) with
      | some c' => some (.next ⟨c', cs, h.set l (.loop ⟨if jump.isNone then .ready else .done, jump, lf, lt, lp, la, lb, ld⟩)⟩)
      | none => none
    | _, _, _ => none

def aenter (P : Program) (callers : List AFrame) (h : AHeap) (f : FuncId) (args : List Value) : Option AStep :=
  match P.funcs[f]? with
  | some fn =>
    match fn.body with
    | some body => if Nat.ble args.length fn.ntmps then some (.next ⟨⟨f, ⟨fn.ntmps, Tmps.fill .nil 0 args⟩, [.code body], none, [], false⟩, callers, h⟩) else none
    | none => none
  | none => none

def setParams (tmps : Tmps) : List Tmp → List Value → Option Tmps
  | t :: ts, a :: as => if Nat.blt t tmps.size then setParams (tmps.set t a) ts as else none
  | [], [] => some tmps
  | _, _ => none

def astep (P : Program) (s : AState) : Option AStep :=
  match s with
  | ⟨⟨fn, tmps, todo, ro, ds, true⟩, callers, h⟩ =>
    match ds with
    | r :: ds =>
      match h.get r with
      | .deferred false => some (.next ⟨⟨fn, tmps, todo, ro, ds, true⟩, callers, h.set r (.deferred true)⟩)
      | _ => none
    | [] =>
      match P.funcs[fn]? with
      | some f =>
        match aresults P f h tmps with
        | some v =>
          match callers with
          | [] => some (.done v h)
          | c :: cs => match c.finish v with | some c' => some (.next ⟨c', cs, h⟩) | none => none
        | none => none
      | none => none
  | ⟨⟨fn, tmps, todo, ro, ds, false⟩, callers, h⟩ =>
    let to (todo : List AItem) : Option AStep := some (.next ⟨⟨fn, tmps, todo, ro, ds, false⟩, callers, h⟩)
    let leave (j : Option Code) : Option AStep := aleave ⟨fn, tmps, todo, ro, ds, false⟩ callers h j
    match todo with
    | [] => leave none
    | .inBlock _ :: k | .inScope _ :: k => to k
    | .inLoop body :: k => to (.code body :: .inLoop body :: k)
    | .beginRound :: k =>
      match ro with
      | some l =>
        match h.get l with
        | .loop ⟨.ready, lpd, lf, lt, lp, la, lb, ld⟩ => some (.next ⟨⟨fn, tmps, k, ro, ds, false⟩, callers, h.set l (.loop ⟨.busy, lpd, lf, lt, lp, la, lb, ld⟩)⟩)
        | _ => none
      | none => none
    | .endRangeFunc l :: k =>
      match h.get l with
      | .loop ⟨st, lpd, lf, lt, lp, la, lb, ld⟩ =>
        match st with
        | .busy => none
        | _ => some (.next ⟨⟨fn, tmps, (lpd.map AItem.code).toList ++ k, ro, ds, false⟩, callers, h.set l (.loop ⟨.exhausted, lpd, lf, lt, lp, la, lb, ld⟩)⟩)
      | _ => none
    | .inRangeFunc _ :: _ => none
    | .ops all i l :: k =>
      match goOps P all i l tmps h with
      | none => none
      | some (tmps', h', _, []) => some (.next ⟨⟨fn, tmps', k, ro, ds, false⟩, callers, h'⟩)
      | some (tmps', h', i', o :: rest) =>
        match aop P (aev tmps') h' o with
        | some (.enter f args h2) => aenter P (⟨fn, tmps', .ops all i' (o :: rest) :: k, ro, ds, false⟩ :: callers) h2 f args
        | some (.round l args) =>
          match h'.get l with
          | .loop ⟨_, _, lf, lt, lp, la, lb, _⟩ =>
            match setParams lt lp args with
            | some lt' => some (.next ⟨⟨lf, lt', [.code la, .beginRound, .code lb], some l, [], false⟩, ⟨fn, tmps', .ops all i' (o :: rest) :: k, ro, ds, false⟩ :: callers, h'⟩)
            | none => none
          | _ => none
        | _ => none
    | .code c :: k =>
      match c with
      | .ret => leave (some .ret)
      | .skip => to k
      | .label _ => to k
      | .seq a b => to (.code a :: .code b :: k)
      | .cond c thn els => match aev tmps c with | .bool b => to (.code (bif b then thn else els) :: k) | _ => none
      | .block id body => to (.code body :: .inBlock id :: k)
      | .loop body => to (.code body :: .inLoop body :: k)
      | .scope body => to (.code body :: .inScope body :: k)
      | .exit id => match aexitTo id k with | some k' => to k' | none => leave (some (.exit id))
      | .goto l => match agotoIn l k with | some k' => to k' | none => leave (some (.goto l))
      | .rangeFunc f params assign body =>
        if okOperand P f = false then none else
        match aev tmps f with
        | .func (.func g) first captured =>
          match ro with
          | none =>
            aenter P (⟨fn, tmps, .inRangeFunc (h.n + 1) :: k, ro, h.n :: ds, false⟩ :: callers)
              ((h.push (.deferred false)).push (.loop ⟨.ready, none, fn, tmps, params.toList, assign, body, h.n⟩)) g (first.toList ++ [.func (.yield (h.n + 1)) #[] #[]] ++ captured.toList)
          | some l =>
            match h.get l with
            | .loop ⟨_, _, _, _, _, _, _, d⟩ =>
              aenter P (⟨fn, tmps, .inRangeFunc h.n :: k, ro, ds, false⟩ :: callers)
                (h.push (.loop ⟨.ready, none, fn, tmps, params.toList, assign, body, d⟩)) g (first.toList ++ [.func (.yield h.n) #[] #[]] ++ captured.toList)
            | _ => none
        | _ => none
      | .region _ ops draw =>
        bif draw then
          bif regionOk ops then
            match canon P ops ops.toList tmps h with
            | some (tmps', h') => some (.next ⟨⟨fn, tmps', k, ro, ds, false⟩, callers, h'⟩)
            | none => none
          else none
        else to (.ops ops 0 ops.toList :: k)
      | .refuse _ => none

def arun (P : Program) : Nat → AState → Option (Value × AHeap)
  | 0, _ => none
  | n + 1, s =>
    match astep P s with
    | some (.next s') => arun P n s'
    | some (.done v h) => some (v, h)
    | none => none

/-- For trying: where a run stops. -/
def atrace (P : Program) : Nat → AState → Nat × AState
  | 0, s => (0, s)
  | n + 1, s =>
    match astep P s with
    | some (.next s') => atrace P n s'
    | some (.done _ _) => (n, s)
    | none => (n, s)

def enterState (P : Program) (f : FuncId) (args : List Value) (h : AHeap) : AState :=
  ⟨⟨f, ⟨((P.funcs[f]?).map (·.ntmps)).getD 0, Tmps.fill .nil 0 args⟩, [.code (((P.funcs[f]?).bind (·.body)).getD .skip)], none, [], false⟩, [], h⟩

end Go.Am

/-
  The abstract machine: how its heap and its values stand to the model's.
-/
namespace Go.Am
open Go Go.RowKit

/-! The trees. -/

theorem Tr.get_nil {α : Type} (d : α) (n : Nat) : (Tr.nil : Tr α).get d n = d := rfl

theorem beq_no {a b : Nat} (h : ¬ a = b) : Nat.beq a b = false := by
  cases e : Nat.beq a b with
  | false => rfl
  | true => exact absurd (Nat.eq_of_beq_eq_true e) h

theorem odd_or (n : Nat) (h : ¬ n = 0) : n = n / 2 * 2 + (n % 2) ∧ (n % 2 = 1 ∨ (n % 2 = 0 ∧ n / 2 ≠ 0)) := by omega

theorem Tr.get_set {α : Type} (d : α) : ∀ (f : Nat) (t : Tr α) (n : Nat) (x : α) (m : Nat), n + 1 < 2 ^ f →
    (t.set d f n x).get d m = if m = n then x else t.get d m := by
  intro f
  induction f with
  | zero => intro t n x m h; simp at h
  | succ f ih =>
    intro t n x m h
    have hp : 2 ^ (f + 1) = 2 * 2 ^ f := by rw [Nat.pow_succ]; omega
    rw [hp] at h
    have key : ∀ (l r : Tr α) (v : α), ((bif Nat.beq n 0 then Tr.node l x r else bif Nat.beq (n % 2) 1 then Tr.node (Tr.set d f l (n / 2) x) v r else Tr.node l v (Tr.set d f r (n / 2 - 1) x)) : Tr α).get d m = if m = n then x else (Tr.node l v r).get d m := by
      intro l r v
      by_cases h0 : n = 0
      · subst h0
        simp only [Nat.beq_refl, cond_true, Tr.get]
        by_cases hm : m = 0
        · subst hm; simp
        · have : Nat.beq m 0 = false := beq_no hm
          simp [this, hm]
      · have e0 : Nat.beq n 0 = false := beq_no h0
        simp only [e0, cond_false]
        by_cases h1 : n % 2 = 1
        · have e1 : Nat.beq (n % 2) 1 = true := by rw [h1]; rfl
          simp only [e1, cond_true, Tr.get]
          by_cases hm : m = 0
          · subst hm
            have : ¬ (0 = n) := fun e => h0 e.symm
            simp [this]
          · have em : Nat.beq m 0 = false := beq_no hm
            simp only [em, cond_false]
            by_cases hm1 : m % 2 = 1
            · have em1 : Nat.beq (m % 2) 1 = true := by rw [hm1]; rfl
              simp only [em1, cond_true]
              rw [ih l (n / 2) x (m / 2) (by omega)]
              by_cases hmn : m = n
              · subst hmn; simp
              · have : ¬ m / 2 = n / 2 := by omega
                simp [this, hmn]
            · have em1 : Nat.beq (m % 2) 1 = false := beq_no hm1
              have : ¬ m = n := fun e => hm1 (e ▸ h1)
              simp [em1, this]
        · have e1 : Nat.beq (n % 2) 1 = false := beq_no h1
          simp only [e1, cond_false, Tr.get]
          by_cases hm : m = 0
          · subst hm
            have : ¬ (0 = n) := fun e => h0 e.symm
            simp [this]
          · have em : Nat.beq m 0 = false := beq_no hm
            simp only [em, cond_false]
            by_cases hm1 : m % 2 = 1
            · have em1 : Nat.beq (m % 2) 1 = true := by rw [hm1]; rfl
              have : ¬ m = n := fun e => h1 (e ▸ hm1)
              simp [em1, this]
            · have em1 : Nat.beq (m % 2) 1 = false := beq_no hm1
              simp only [em1, cond_false]
              rw [ih r (n / 2 - 1) x (m / 2 - 1) (by omega)]
              by_cases hmn : m = n
              · subst hmn; simp
              · have : ¬ m / 2 - 1 = n / 2 - 1 := by omega
                simp [this, hmn]
    cases t with
    | nil =>
      have := key .nil .nil d
      simp only [Tr.set]
      rw [this]
      simp [Tr.get]
    | node l v r => simp only [Tr.set]; exact key l r v

theorem fuel_ok (n : Nat) : n + 1 < 2 ^ (n + 1) := by
  induction n with
  | zero => decide
  | succ n ih => rw [Nat.pow_succ]; omega

theorem Tmps.get_set (t : Tmps) (n : Nat) (x : Value) (m : Nat) : (t.set n x).get m = if m = n then x else t.get m := by
  unfold Tmps.set Tmps.get
  exact Tr.get_set undef (n + 1) t.tr n x m (fuel_ok n)

@[simp] theorem Tmps.size_set (t : Tmps) (n : Nat) (x : Value) : (t.set n x).size = t.size := rfl

theorem AHeap.get_set (h : AHeap) (b : Nat) (o : AObj) (c : Nat) : (h.set b o).get c = if c = b then o else h.get c := by
  unfold AHeap.set AHeap.get
  exact Tr.get_set .dead (b + 1) h.tr b o c (fuel_ok b)

theorem AHeap.get_push (h : AHeap) (o : AObj) (c : Nat) : (h.push o).get c = if c = h.n then o else h.get c := by
  unfold AHeap.push AHeap.get
  exact Tr.get_set .dead (h.n + 1) h.tr h.n o c (fuel_ok h.n)

@[simp] theorem AHeap.n_set (h : AHeap) (b : Nat) (o : AObj) : (h.set b o).n = h.n := rfl
@[simp] theorem AHeap.n_push (h : AHeap) (o : AObj) : (h.push o).n = h.n + 1 := rfl

/-! Where the abstract blocks lie. -/

structure Pl where
  b : Nat
  s : Nat
  e : Nat
  z : Nat

abbrev Ren := List Pl

def Sub (ρ ρ' : Ren) : Prop := ∀ (b : Nat) (p : Pl), ρ[b]? = some p → ρ'[b]? = some p

theorem Sub.refl (ρ : Ren) : Sub ρ ρ := fun _ _ h => h
theorem Sub.trans {a b c : Ren} (h : Sub a b) (k : Sub b c) : Sub a c := fun i p hp => k i p (h i p hp)
theorem Sub.append (ρ l : Ren) : Sub ρ (ρ ++ l) := fun b p h => by
  rw [List.getElem?_append_left]
  · exact h
  · exact (List.getElem?_eq_some_iff.1 h).1

inductive FnR (ρ : Ren) : Fn → Fn → Prop where
  | func (f : FuncId) : FnR ρ (.func f) (.func f)
  | yield {l : Nat} {p : Pl} : ρ[l]? = some p → FnR ρ (.yield l) (.yield p.b)

inductive VR (ρ : Ren) : Value → Value → Prop where
  | bool (b : Bool) : VR ρ (.bool b) (.bool b)
  | int (k : IntKind) (n : Int) : VR ρ (.int k n) (.int k n)
  | string (s : ByteArray) : VR ρ (.string s) (.string s)
  | nilFunc : VR ρ .nilFunc .nilFunc
  | nilIface : VR ρ .nilIface .nilIface
  | pnil : VR ρ (.pointer none) (.pointer none)
  | ptr {b : Nat} {p : Pl} (i : Nat) : ρ[b]? = some p → VR ρ (.pointer (some ⟨b, i, none⟩)) (.pointer (some ⟨p.b, p.s + i, none⟩))
  | snil (n c : Nat) : c < big → VR ρ (.slice none n c) (.slice none n c)
  | slice {b : Nat} {p : Pl} (i n c : Nat) : ρ[b]? = some p → c < big → VR ρ (.slice (some ⟨b, i, none⟩) n c) (.slice (some ⟨p.b, p.s + i, none⟩) n c)
  | opn {b : Nat} {p : Pl} (i n c : Nat) : ρ[b]? = some p → n ≤ c → p.s + i + c * p.e ≤ p.z → VR ρ (.slice (some ⟨b, i, none⟩) n big) (.slice (some ⟨p.b, p.s + i, none⟩) n c)
  | void (a : Addr) (c k : Nat) : k = big ∨ (k = big + 1 ∧ c = 0) → VR ρ (.slice none 0 k) (.slice (some a) 0 c)
  | agg (xs ys : Array Value) : xs.size = ys.size → (∀ (i : Nat) (x y : Value), xs[i]? = some x → ys[i]? = some y → VR ρ x y) → VR ρ (.agg xs) (.agg ys)
  | tuple (xs ys : Array Value) : xs.size = ys.size → (∀ (i : Nat) (x y : Value), xs[i]? = some x → ys[i]? = some y → VR ρ x y) → VR ρ (.tuple xs) (.tuple ys)
  | func (f g : Fn) (xs ys us vs : Array Value) : FnR ρ f g → xs.size = ys.size → (∀ (i : Nat) (x y : Value), xs[i]? = some x → ys[i]? = some y → VR ρ x y) →
      us.size = vs.size → (∀ (i : Nat) (x y : Value), us[i]? = some x → vs[i]? = some y → VR ρ x y) → VR ρ (.func f xs us) (.func g ys vs)

theorem FnR.mono {ρ ρ' : Ren} (hs : Sub ρ ρ') {f g : Fn} (h : FnR ρ f g) : FnR ρ' f g := by
  cases h with
  | func f => exact .func f
  | yield h => exact .yield (hs _ _ h)

theorem VR.mono {ρ ρ' : Ren} (hs : Sub ρ ρ') {x y : Value} (h : VR ρ x y) : VR ρ' x y := by
  induction h with
  | bool b => exact .bool b
  | int k n => exact .int k n
  | string s => exact .string s
  | nilFunc => exact .nilFunc
  | nilIface => exact .nilIface
  | pnil => exact .pnil
  | ptr i h => exact .ptr i (hs _ _ h)
  | snil n c h => exact .snil n c h
  | slice i n c h hc => exact .slice i n c (hs _ _ h) hc
  | opn i n c h hn hz => exact .opn i n c (hs _ _ h) hn hz
  | void a c k hk => exact .void a c k hk
  | agg xs ys h _ ih => exact .agg xs ys h ih
  | tuple xs ys h _ ih => exact .tuple xs ys h ih
  | func f g xs ys us vs hf h1 _ h2 _ ih1 ih2 => exact .func f g xs ys us vs (hf.mono hs) h1 ih1 h2 ih2

theorem VR.undef (ρ : Ren) : VR ρ undef undef := .tuple #[] #[] rfl (fun i x y h => by simp at h)

/-- Lists of related values. -/
def LR (ρ : Ren) (xs ys : List Value) : Prop := xs.length = ys.length ∧ ∀ (i : Nat) (x y : Value), xs[i]? = some x → ys[i]? = some y → VR ρ x y

theorem LR.mono {ρ ρ' : Ren} (hs : Sub ρ ρ') {x y : List Value} (h : LR ρ x y) : LR ρ' x y := ⟨h.1, fun i a b ha hb => (h.2 i a b ha hb).mono hs⟩

theorem LR.nil (ρ : Ren) : LR ρ [] [] := ⟨rfl, fun i x y h => by simp at h⟩

theorem LR.cons {ρ : Ren} {x y : Value} {xs ys : List Value} (h : VR ρ x y) (hs : LR ρ xs ys) : LR ρ (x :: xs) (y :: ys) := by
  refine ⟨by simp [hs.1], fun i a b ha hb => ?_⟩
  cases i with
  | zero => simp at ha hb; subst ha; subst hb; exact h
  | succ i => simp at ha hb; exact hs.2 i a b ha hb

theorem LR.uncons {ρ : Ren} {x : Value} {xs l : List Value} (h : LR ρ (x :: xs) l) : ∃ y ys, l = y :: ys ∧ VR ρ x y ∧ LR ρ xs ys := by
  cases l with
  | nil => have := h.1; simp at this
  | cons y ys =>
    refine ⟨y, ys, rfl, h.2 0 x y rfl rfl, ?_, fun i a b ha hb => h.2 (i + 1) a b (by simpa using ha) (by simpa using hb)⟩
    have := h.1; simp at this; exact this

theorem LR.nil_left {ρ : Ren} {l : List Value} (h : LR ρ [] l) : l = [] := by
  have := h.1; simp at this; exact List.eq_nil_of_length_eq_zero this.symm

theorem LR.append {ρ : Ren} {a b c d : List Value} (h : LR ρ a b) (k : LR ρ c d) : LR ρ (a ++ c) (b ++ d) := by
  refine ⟨by simp [h.1, k.1], fun i x y hx hy => ?_⟩
  by_cases hi : i < a.length
  · rw [List.getElem?_append_left hi] at hx
    rw [List.getElem?_append_left (by rw [← h.1]; exact hi)] at hy
    exact h.2 i x y hx hy
  · rw [List.getElem?_append_right (by omega)] at hx
    rw [List.getElem?_append_right (by rw [← h.1]; omega)] at hy
    rw [← h.1] at hy
    exact k.2 _ x y hx hy

theorem LR.get {ρ : Ren} {xs ys : List Value} (h : LR ρ xs ys) {i : Nat} {x : Value} (hx : xs[i]? = some x) : ∃ y, ys[i]? = some y ∧ VR ρ x y := by
  have hi : i < ys.length := by rw [← h.1]; exact (List.getElem?_eq_some_iff.1 hx).1
  exact ⟨ys[i], List.getElem?_eq_getElem hi, h.2 i x _ hx (List.getElem?_eq_getElem hi)⟩

theorem LR.of_arrays {ρ : Ren} {xs ys : Array Value} (h : xs.size = ys.size) (k : ∀ (i : Nat) (x y : Value), xs[i]? = some x → ys[i]? = some y → VR ρ x y) : LR ρ xs.toList ys.toList :=
  ⟨by simpa using h, fun i x y hx hy => k i x y (by simpa using hx) (by simpa using hy)⟩

theorem VR.agg_of {ρ : Ren} {xs ys : List Value} (h : LR ρ xs ys) : VR ρ (.agg xs.toArray) (.agg ys.toArray) :=
  .agg _ _ (by simpa using h.1) (fun i x y hx hy => h.2 i x y (by simpa using hx) (by simpa using hy))

theorem VR.agg_arr {ρ : Ren} {xs ys : Array Value} (h : LR ρ xs.toList ys.toList) : VR ρ (.agg xs) (.agg ys) :=
  .agg _ _ (by simpa using h.1) (fun i x y hx hy => h.2 i x y (by simpa using hx) (by simpa using hy))

theorem VR.tuple_arr {ρ : Ren} {xs ys : Array Value} (h : LR ρ xs.toList ys.toList) : VR ρ (.tuple xs) (.tuple ys) :=
  .tuple _ _ (by simpa using h.1) (fun i x y hx hy => h.2 i x y (by simpa using hx) (by simpa using hy))

theorem VR.tuple_of {ρ : Ren} {xs ys : List Value} (h : LR ρ xs ys) : VR ρ (.tuple xs.toArray) (.tuple ys.toArray) :=
  .tuple _ _ (by simpa using h.1) (fun i x y hx hy => h.2 i x y (by simpa using hx) (by simpa using hy))

theorem VR.agg_inv {ρ : Ren} {xs : Array Value} {y : Value} (h : VR ρ (.agg xs) y) : ∃ ys, y = .agg ys ∧ LR ρ xs.toList ys.toList := by
  cases h with
  | agg xs ys h k => exact ⟨ys, rfl, .of_arrays h k⟩

theorem VR.tuple_inv {ρ : Ren} {xs : Array Value} {y : Value} (h : VR ρ (.tuple xs) y) : ∃ ys, y = .tuple ys ∧ LR ρ xs.toList ys.toList := by
  cases h with
  | tuple xs ys h k => exact ⟨ys, rfl, .of_arrays h k⟩

/-- The cells of related values. -/
theorem VR.cells {ρ : Ren} {x y : Value} (h : VR ρ x y) : LR ρ x.cells.toList y.cells.toList := by
  cases h with
  | agg xs ys h k => exact .of_arrays h k
  | bool b => exact LR.cons (.bool b) (LR.nil ρ)
  | int k n => exact LR.cons (.int k n) (LR.nil ρ)
  | string s => exact LR.cons (.string s) (LR.nil ρ)
  | nilFunc => exact LR.cons .nilFunc (LR.nil ρ)
  | nilIface => exact LR.cons .nilIface (LR.nil ρ)
  | pnil => exact LR.cons .pnil (LR.nil ρ)
  | ptr i h => exact LR.cons (.ptr i h) (LR.nil ρ)
  | snil n c h => exact LR.cons (.snil n c h) (LR.nil ρ)
  | slice i n c h k => exact LR.cons (.slice i n c h k) (LR.nil ρ)
  | opn i n c h k l => exact LR.cons (.opn i n c h k l) (LR.nil ρ)
  | void a c k hk => exact LR.cons (.void a c k hk) (LR.nil ρ)
  | tuple xs ys h k => exact LR.cons (.tuple xs ys h k) (LR.nil ρ)
  | func f g xs ys us vs a b c d e => exact LR.cons (.func f g xs ys us vs a b c d e) (LR.nil ρ)

/-! The heap. -/

def Row (ρ : Ren) (p : Pl) (c : List Value) (w : World) : Prop :=
  ∃ (cc : Array Value) (el : TypeId) (fz : Nat × Nat), w.heap[p.b]? = some (.cells cc el fz) ∧ cc.size = p.z ∧ p.s + c.length ≤ p.z ∧
    (∀ i, i < p.z → (decide (fz.1 ≤ i) && decide (i < fz.2)) = false) ∧ ∀ (i : Nat) (x : Value), c[i]? = some x → ∃ y, cc[p.s + i]? = some y ∧ VR ρ x y

/-- A row that is read alone. -/
def RowR (ρ : Ren) (p : Pl) (c : List Value) (w : World) : Prop :=
  ∃ (cc : Array Value) (el : TypeId) (fz : Nat × Nat), w.heap[p.b]? = some (.cells cc el fz) ∧ p.s + c.length ≤ p.z ∧ ∀ (i : Nat) (x : Value), c[i]? = some x → ∃ y, cc[p.s + i]? = some y ∧ VR ρ x y

theorem Row.r {ρ : Ren} {p : Pl} {c : List Value} {w : World} (h : Row ρ p c w) : RowR ρ p c w := by
  obtain ⟨cc, el, fz, h1, h2, h3, h4, h5⟩ := h
  exact ⟨cc, el, fz, h1, h3, h5⟩

/-- The temporaries. -/
def TR (ρ : Ren) (t : Tmps) (c : Array Value) : Prop := t.size = c.size ∧ ∀ i, VR ρ (t.get i) (c.getD i undef)

structure LoopR (ρ : Ren) (l : ALoop) (L : Loop) : Prop where
  state : L.state = l.state
  pending : L.pending = l.pending
  fn : L.fn = l.fn
  tmps : TR ρ l.tmps L.tmps
  params : L.params.toList = l.params
  assign : L.assign = l.assign
  body : L.body = l.body
  defers : ∃ p : Pl, ρ[l.defers]? = some p ∧ L.defers = p.b

def lookP : List (Nat × Value) → Nat → Option Value
  | [], _ => none
  | (d, v) :: r, i => bif Nat.beq i d then some v else lookP r i

structure PLoopR (ρ : Ren) (l : PLoop) (L : Loop) : Prop where
  state : L.state = l.state
  pending : L.pending = l.pending
  size : L.tmps.size = l.n
  tmps : ∀ (i : Nat) (v : Value), lookP l.t i = some v → VR ρ v (L.tmps.getD i undef)
  params : L.params.toList = l.params
  assign : L.assign = l.assign
  body : L.body = l.body

def OR (ρ : Ren) (base : Nat) (p : Pl) (o : AObj) (w : World) : Prop :=
  match o with
  | .lp l => base ≤ p.b ∧ ∃ L, w.heap[p.b]? = some (.loop L) ∧ PLoopR ρ l L
  | .cells c e => base ≤ p.b ∧ p.e = e ∧ Row ρ p c w
  | .ro c => p.b < base ∧ RowR ρ p c w
  | .dead => True
  | .iter s pos => base ≤ p.b ∧ w.heap[p.b]? = some (.stringIter s pos)
  | .loop l => base ≤ p.b ∧ ∃ L, w.heap[p.b]? = some (.loop L) ∧ LoopR ρ l L
  | .deferred t => base ≤ p.b ∧ w.heap[p.b]? = some (.deferred (if t then none else some []))

def live : AObj → Bool
  | .dead | .ro _ => false
  | _ => true

structure HR (P : Program) (ρ : Ren) (w0 : World) (h : AHeap) (w : World) : Prop where
  len : ρ.length = h.n
  gone : ∀ b, h.n ≤ b → h.get b = .dead
  obj : ∀ (b : Nat) (p : Pl), ρ[b]? = some p → p.b < w.heap.size ∧ OR ρ w0.heap.size p (h.get b) w
  inj : ∀ (b c : Nat) (p q : Pl), b ≠ c → ρ[b]? = some p → ρ[c]? = some q → live (h.get b) = true → live (h.get c) = true → p.b ≠ q.b
  below : Below w0.heap.size w0 w
  glob : ∀ g, g < P.globals.size → ∃ p : Pl, ρ[g]? = some p ∧ p.b = g ∧ p.s = 0

theorem TR.mono {ρ ρ' : Ren} (hs : Sub ρ ρ') {t : Tmps} {c : Array Value} (h : TR ρ t c) : TR ρ' t c := ⟨h.1, fun i => (h.2 i).mono hs⟩

theorem LoopR.mono {ρ ρ' : Ren} (hs : Sub ρ ρ') {l : ALoop} {L : Loop} (h : LoopR ρ l L) : LoopR ρ' l L :=
  ⟨h.state, h.pending, h.fn, h.tmps.mono hs, h.params, h.assign, h.body, let ⟨p, hp, hd⟩ := h.defers; ⟨p, hs _ _ hp, hd⟩⟩

theorem PLoopR.mono {ρ ρ' : Ren} (hs : Sub ρ ρ') {l : PLoop} {L : Loop} (h : PLoopR ρ l L) : PLoopR ρ' l L :=
  ⟨h.state, h.pending, h.size, fun i v hv => (h.tmps i v hv).mono hs, h.params, h.assign, h.body⟩

theorem Row.mono {ρ ρ' : Ren} (hs : Sub ρ ρ') {p : Pl} {c : List Value} {w : World} (h : Row ρ p c w) : Row ρ' p c w := by
  obtain ⟨cc, el, fz, h1, h2, h3, h4, h5⟩ := h
  exact ⟨cc, el, fz, h1, h2, h3, h4, fun i x hx => let ⟨y, hy, hv⟩ := h5 i x hx; ⟨y, hy, hv.mono hs⟩⟩

theorem RowR.mono {ρ ρ' : Ren} (hs : Sub ρ ρ') {p : Pl} {c : List Value} {w : World} (h : RowR ρ p c w) : RowR ρ' p c w := by
  obtain ⟨cc, el, fz, h1, h3, h5⟩ := h
  exact ⟨cc, el, fz, h1, h3, fun i x hx => let ⟨y, hy, hv⟩ := h5 i x hx; ⟨y, hy, hv.mono hs⟩⟩

theorem OR.mono {ρ ρ' : Ren} (hs : Sub ρ ρ') {base : Nat} {p : Pl} {o : AObj} {w : World} (h : OR ρ base p o w) : OR ρ' base p o w := by
  cases o with
  | lp l => obtain ⟨h1, L, h2, h3⟩ := h; exact ⟨h1, L, h2, h3.mono hs⟩
  | cells c e => exact ⟨h.1, h.2.1, h.2.2.mono hs⟩
  | ro c => exact ⟨h.1, h.2.mono hs⟩
  | dead => exact h
  | iter s pos => exact h
  | loop l => obtain ⟨h1, L, h2, h3⟩ := h; exact ⟨h1, L, h2, h3.mono hs⟩
  | deferred t => exact h

theorem Row.world {ρ : Ren} {p : Pl} {c : List Value} {w w' : World} (h : Row ρ p c w) (hb : w'.heap[p.b]? = w.heap[p.b]?) : Row ρ p c w' := by
  obtain ⟨cc, el, fz, h1, h2⟩ := h
  exact ⟨cc, el, fz, hb.trans h1, h2⟩

theorem RowR.world {ρ : Ren} {p : Pl} {c : List Value} {w w' : World} (h : RowR ρ p c w) (hb : w'.heap[p.b]? = w.heap[p.b]?) : RowR ρ p c w' := by
  obtain ⟨cc, el, fz, h1, h2⟩ := h
  exact ⟨cc, el, fz, hb.trans h1, h2⟩

theorem OR.world {ρ : Ren} {base : Nat} {p : Pl} {o : AObj} {w w' : World} (h : OR ρ base p o w) (hb : w'.heap[p.b]? = w.heap[p.b]?) : OR ρ base p o w' := by
  cases o with
  | lp l => obtain ⟨h1, L, h2, h3⟩ := h; exact ⟨h1, L, hb.trans h2, h3⟩
  | cells c e => exact ⟨h.1, h.2.1, h.2.2.world hb⟩
  | ro c => exact ⟨h.1, h.2.world hb⟩
  | dead => exact h
  | iter s pos => exact ⟨h.1, hb.trans h.2⟩
  | loop l => obtain ⟨h1, L, h2, h3⟩ := h; exact ⟨h1, L, hb.trans h2, h3⟩
  | deferred t => exact ⟨h.1, hb.trans h.2⟩

theorem OR.base_le {ρ : Ren} {base : Nat} {p : Pl} {o : AObj} {w : World} (h : OR ρ base p o w) (hl : live o = true) : base ≤ p.b := by
  cases o <;> first | exact h.1 | (simp [live] at hl)

variable {P : Program} {ρ : Ren} {w0 w w' : World} {h : AHeap}

theorem HR.lt (H : HR P ρ w0 h w) {b : Nat} {p : Pl} (hp : ρ[b]? = some p) : b < h.n := by
  rw [← H.len]; exact (List.getElem?_eq_some_iff.1 hp).1

/-- The world turns where no block of ours lies. -/
theorem HR.turn (H : HR P ρ w0 h w) (hb : Below w0.heap.size w0 w') (hs : w.heap.size ≤ w'.heap.size)
    (hk : ∀ (b : Nat) (p : Pl), ρ[b]? = some p → live (h.get b) = true → w'.heap[p.b]? = w.heap[p.b]?) : HR P ρ w0 h w' where
  len := H.len
  gone := H.gone
  obj := fun b p hp => by
    obtain ⟨h1, h2⟩ := H.obj b p hp
    refine ⟨by omega, ?_⟩
    cases ho : h.get b with
    | dead => exact trivial
    | ro c =>
      rw [ho] at h2
      exact h2.world ((hb.block p.b h2.1).trans (H.below.block p.b h2.1).symm)
    | lp l => rw [← ho]; exact h2.world (hk b p hp (by rw [ho]; rfl))
    | cells c e => rw [← ho]; exact h2.world (hk b p hp (by rw [ho]; rfl))
    | iter s pos => rw [← ho]; exact h2.world (hk b p hp (by rw [ho]; rfl))
    | loop l => rw [← ho]; exact h2.world (hk b p hp (by rw [ho]; rfl))
    | deferred t => rw [← ho]; exact h2.world (hk b p hp (by rw [ho]; rfl))
  inj := H.inj
  below := hb
  glob := H.glob

theorem HR.drew (H : HR P ρ w0 h w) (n : Nat) : HR P ρ w0 h { w with drawn := n } :=
  H.turn ⟨H.below.os, H.below.tape, H.below.output, H.below.size, H.below.block⟩ (Nat.le_refl _) (fun _ _ _ _ => rfl)

/-- A block is forgotten. -/
theorem HR.kill (H : HR P ρ w0 h w) (b : Nat) (hb : b < h.n) : HR P ρ w0 (h.set b .dead) w where
  len := H.len
  gone := fun c hc => by
    have : c ≠ b := by simp at hc; omega
    rw [AHeap.get_set _ _ _ _, if_neg this]; exact H.gone c hc
  obj := fun c p hp => by
    rw [AHeap.get_set _ _ _ _]
    refine ⟨(H.obj c p hp).1, ?_⟩
    split
    · exact trivial
    · exact (H.obj c p hp).2
  inj := fun c d p q hcd hp hq hc hd => by
    rw [AHeap.get_set _ _ _ _] at hc hd
    split at hc
    · simp [live] at hc
    · split at hd
      · simp [live] at hd
      · exact H.inj c d p q hcd hp hq hc hd
  below := H.below
  glob := H.glob

/-- One more block. -/
theorem HR.put (H : HR P ρ w0 h w) (p : Pl) (o : AObj) (hpb : p.b < w.heap.size)
    (ho : OR (ρ ++ [p]) w0.heap.size p o w) (hin : ∀ (b : Nat) (q : Pl), ρ[b]? = some q → live (h.get b) = true → live o = true → q.b ≠ p.b) :
    HR P (ρ ++ [p]) w0 (h.push o) w where
  len := by simp [H.len]
  gone := fun c hc => by
    simp at hc
    have : c ≠ h.n := by omega
    rw [AHeap.get_push _ _ _, if_neg this]; exact H.gone c (by omega)
  obj := fun c q hq => by
    rw [AHeap.get_push _ _ _]
    by_cases hc : c = h.n
    · subst hc
      rw [List.getElem?_append_right (by rw [H.len]; omega), H.len] at hq
      simp at hq
      subst hq
      rw [if_pos rfl]
      exact ⟨hpb, ho⟩
    · rw [if_neg hc]
      have hlt : c < ρ.length := by
        have := (List.getElem?_eq_some_iff.1 hq).1
        simp at this
        rw [H.len] at this ⊢
        omega
      rw [List.getElem?_append_left hlt] at hq
      obtain ⟨h1, h2⟩ := H.obj c q hq
      exact ⟨h1, h2.mono (Sub.append ρ [p])⟩
  inj := fun c d q r hcd hq hr hc hd => by
    rw [AHeap.get_push _ _ _] at hc hd
    have old : ∀ (c : Nat) (q : Pl), (ρ ++ [p])[c]? = some q → c ≠ h.n → ρ[c]? = some q := fun c q hq hc => by
      have hlt : c < ρ.length := by
        have := (List.getElem?_eq_some_iff.1 hq).1
        simp at this
        rw [H.len] at this ⊢
        omega
      rwa [List.getElem?_append_left hlt] at hq
    have new : ∀ (q : Pl), (ρ ++ [p])[h.n]? = some q → q = p := fun q hq => by
      rw [List.getElem?_append_right (by rw [H.len]; omega), H.len] at hq
      simp at hq
      exact hq.symm
    by_cases hcn : c = h.n
    · subst hcn
      have hdn : d ≠ h.n := fun e => hcd e.symm
      rw [if_pos rfl] at hc
      rw [if_neg hdn] at hd
      rw [new q hq]
      exact fun e => hin d r (old d r hr hdn) hd hc e.symm
    · rw [if_neg hcn] at hc
      by_cases hdn : d = h.n
      · subst hdn
        rw [if_pos rfl] at hd
        rw [new r hr]
        exact hin c q (old c q hq hcn) hc hd
      · rw [if_neg hdn] at hd
        exact H.inj c d q r hcd (old c q hq hcn) (old d r hr hdn) hc hd
  below := H.below
  glob := fun g hg => let ⟨p', hp', h1, h2⟩ := H.glob g hg; ⟨p', Sub.append ρ [p] _ _ hp', h1, h2⟩

/-- A block turns into another one, in place. -/
theorem HR.change (H : HR P ρ w0 h w) {b : Nat} {p : Pl} (hp : ρ[b]? = some p) (hl : live (h.get b) = true) (o : AObj)
    (hb : Below w0.heap.size w0 w') (hs : w.heap.size ≤ w'.heap.size) (hk : ∀ k, k ≠ p.b → k < w.heap.size → w'.heap[k]? = w.heap[k]?)
    (ho : OR ρ w0.heap.size p o w') : HR P ρ w0 (h.set b o) w' where
  len := H.len
  gone := fun c hc => by
    have := H.lt hp
    have : c ≠ b := by simp at hc; omega
    rw [AHeap.get_set _ _ _ _, if_neg this]; exact H.gone c hc
  obj := fun c q hq => by
    rw [AHeap.get_set _ _ _ _]
    have hc1 := (H.obj c q hq).1
    refine ⟨by omega, ?_⟩
    by_cases hcb : c = b
    · subst hcb
      rw [if_pos rfl]
      rw [hp] at hq
      cases hq
      exact ho
    · rw [if_neg hcb]
      have h2 := (H.obj c q hq).2
      cases hoc : h.get c with
      | dead => exact trivial
      | ro cs =>
        rw [hoc] at h2
        exact h2.world ((hb.block q.b h2.1).trans (H.below.block q.b h2.1).symm)
      | cells cs e =>
        have hne := H.inj c b q p hcb hq hp (by rw [hoc]; rfl) hl
        rw [← hoc]; exact h2.world (hk q.b hne hc1)
      | iter s pos =>
        have hne := H.inj c b q p hcb hq hp (by rw [hoc]; rfl) hl
        rw [← hoc]; exact h2.world (hk q.b hne hc1)
      | lp l =>
        have hne := H.inj c b q p hcb hq hp (by rw [hoc]; rfl) hl
        rw [← hoc]; exact h2.world (hk q.b hne hc1)
      | loop l =>
        have hne := H.inj c b q p hcb hq hp (by rw [hoc]; rfl) hl
        rw [← hoc]; exact h2.world (hk q.b hne hc1)
      | deferred t =>
        have hne := H.inj c b q p hcb hq hp (by rw [hoc]; rfl) hl
        rw [← hoc]; exact h2.world (hk q.b hne hc1)
  inj := fun c d q r hcd hq hr hc hd => by
    rw [AHeap.get_set _ _ _ _] at hc hd
    have hc' : live (h.get c) = true := by
      by_cases e : c = b
      · subst e; exact hl
      · rwa [if_neg e] at hc
    have hd' : live (h.get d) = true := by
      by_cases e : d = b
      · subst e; exact hl
      · rwa [if_neg e] at hd
    exact H.inj c d q r hcd hq hr hc' hd'
  below := hb
  glob := H.glob

/-- A new block of the world, and of ours. -/
theorem HR.alloc (H : HR P ρ w0 h w) (O : Obj) (o : AObj) (p : Pl) (hpb : p.b = w.heap.size)
    (ho : OR (ρ ++ [p]) w0.heap.size p o { w with heap := w.heap.push O }) : HR P (ρ ++ [p]) w0 (h.push o) { w with heap := w.heap.push O } := by
  have h1 : HR P ρ w0 h { w with heap := w.heap.push O } := by
    refine H.turn ?_ (by simp) (fun b q hq _ => ?_)
    · exact H.below.alloc H.below.size O
    · have := (H.obj b q hq).1
      show (w.heap.push O)[q.b]? = _
      rw [Array.getElem?_push, if_neg (by omega)]
  refine h1.put p o (by simp [hpb]) ho (fun b q hq _ _ => ?_)
  have := (H.obj b q hq).1
  omega

end Go.Am

/-
  The abstract machine: operations that leave the heap alone yield related values.
-/
namespace Go.Am
open Go Go.RowKit

variable {P : Program} {ρ : Ren} {w0 w : World} {h : AHeap}

/-! Reading. -/

theorem AObj.row_or {base : Nat} {p : Pl} {o : AObj} {c : List Value} (hr : o.row = some c) (ho : OR ρ base p o w) : RowR ρ p c w := by
  cases o with
  | cells c' e => simp [AObj.row] at hr; subst hr; exact ho.2.2.r
  | ro c' => simp [AObj.row] at hr; subst hr; exact ho.2
  | _ => simp [AObj.row] at hr

theorem RowR.cell {p : Pl} {c : List Value} (H : RowR ρ p c w) {i : Nat} {x : Value} (hx : c[i]? = some x) : ∃ y, w.cell? ⟨p.b, p.s + i, none⟩ = some y ∧ VR ρ x y := by
  obtain ⟨cc, el, fz, h1, h3, h5⟩ := H
  obtain ⟨y, hy, hv⟩ := h5 i x hx
  exact ⟨y, by simp [World.cell?, h1, hy], hv⟩

theorem aread_sim (H : HR P ρ w0 h w) {b i : Nat} {x : Value} {p : Pl} (hr : aread h b i = some x) (hp : ρ[b]? = some p) :
    ∃ y, w.cell? ⟨p.b, p.s + i, none⟩ = some y ∧ VR ρ x y := by
  unfold aread at hr
  cases hc : (h.get b).row with
  | none => simp [hc] at hr
  | some c => simp [hc] at hr; exact (AObj.row_or hc (H.obj b p hp).2).cell hr

theorem takeAt_spec {c : List Value} {i n : Nat} {l : List Value} (h : takeAt c i n = some l) : l.length = n ∧ ∀ j, j < n → l[j]? = c[i + j]? := by
  unfold takeAt at h
  split at h
  · cases h
    refine ⟨by simp; omega, fun j hj => ?_⟩
    rw [List.getElem?_take_of_lt hj, List.getElem?_drop]
  · cases h

theorem areadN_sim (H : HR P ρ w0 h w) {b i n : Nat} {l : List Value} {p : Pl} (hr : areadN h b i n = some l) (hp : ρ[b]? = some p) :
    ∃ l', LR ρ l l' ∧ l.length = n ∧ ∀ (j : Nat) (y : Value), l'[j]? = some y → w.cell? ⟨p.b, p.s + i + j, none⟩ = some y := by
  unfold areadN at hr
  cases hc : (h.get b).row with
  | none => simp [hc] at hr
  | some c =>
    simp [hc] at hr
    obtain ⟨hl, hj⟩ := takeAt_spec hr
    have HRow := AObj.row_or hc (H.obj b p hp).2
    have key : ∀ j, j < n → ∃ y, w.cell? ⟨p.b, p.s + i + j, none⟩ = some y ∧ ∀ x, l[j]? = some x → VR ρ x y := fun j hjn => by
      have hlt : j < l.length := by omega
      have hx : c[i + j]? = some l[j] := by rw [← hj j hjn]; exact List.getElem?_eq_getElem hlt
      obtain ⟨y, hy, hv⟩ := HRow.cell hx
      refine ⟨y, by rw [Nat.add_assoc]; exact hy, fun x hx' => ?_⟩
      rw [List.getElem?_eq_getElem hlt] at hx'
      cases hx'
      exact hv
    refine ⟨(List.range n).map fun j => (w.cell? ⟨p.b, p.s + i + j, none⟩).getD undef, ⟨by simp [hl], fun j x y hx hy => ?_⟩, hl, fun j y hy => ?_⟩
    · have hjn : j < n := by have := (List.getElem?_eq_some_iff.1 hx).1; omega
      obtain ⟨y', hy', hv⟩ := key j hjn
      simp [hjn, hy'] at hy
      subst hy
      exact hv x hx
    · have hjn : j < n := by have := (List.getElem?_eq_some_iff.1 hy).1; simpa using this
      obtain ⟨y', hy', _⟩ := key j hjn
      simp [hjn, hy'] at hy
      subst hy
      exact hy'

theorem Addr.add_none (b o n : Nat) : (⟨b, o, none⟩ : Addr).add n = ⟨b, o + n, none⟩ := by
  unfold Addr.add
  split
  · rename_i e; subst e; rfl
  · rfl

theorem run_loadCells_of (b o : Nat) (l : List Value) (hl : ∀ (j : Nat) (y : Value), l[j]? = some y → w.cell? ⟨b, o + j, none⟩ = some y) :
    (loadCells ⟨b, o, none⟩ l.length).run P w = .ok l.toArray w :=
  run_loadCells_list (P := P) (w := w) ⟨b, o, none⟩ l (fun j v hv => by rw [Addr.add_none]; exact hl j v hv)

theorem run_isAgg {t : TypeId} {r : Bool} (hr : aisAgg P t = some r) : (isAgg t).run P w = .ok r w := by
  unfold aisAgg at hr
  cases hu : P.underlying t with
  | none => simp [hu] at hr
  | some d => cases d <;> simp [hu] at hr <;> subst hr <;> simp [isAgg, run_underlying hu]

theorem run_sizeOf {t : TypeId} {n : Nat} (hn : asize P t = some n) : (sizeOf t).run P w = .ok n w := by
  unfold asize at hn
  cases hi : P.info? t with
  | none => simp [hi] at hn
  | some i => simp [hi] at hn; subst hn; simp [sizeOf, typeInfo, hi]

theorem aload_sim (H : HR P ρ w0 h w) {t : TypeId} {a a' v : Value} (hl : aload P h t a = some v) (ha : VR ρ a a') :
    ∃ v', (Instr.loadAt t a').run P w = .ok v' w ∧ VR ρ v v' := by
  unfold aload at hl
  split at hl
  · rename_i b i
    cases ha with
    | ptr i hp =>
      rename_i p
      simp only [Option.bind_eq_bind] at hl
      cases hg : aisAgg P t with
      | none => simp [hg] at hl
      | some r =>
        have h1 := run_isAgg (w := w) hg
        cases r with
        | false =>
          simp [hg] at hl
          obtain ⟨y, hy, hv⟩ := aread_sim H hl hp
          exact ⟨y, by simp [Instr.loadAt, Instr.sureAddr, loadVar, h1, hy], hv⟩
        | true =>
          simp only [hg, Option.bind_some] at hl
          cases hs : asize P t with
          | none => simp [hs] at hl
          | some n =>
            simp only [hs, if_true, Option.bind_some] at hl
            cases hcs : areadN h b i n with
            | none => simp [hcs] at hl
            | some cs =>
            simp only [hcs, Option.bind_some, Option.some.injEq] at hl
            subst hl
            obtain ⟨l', hlr, hn, hcell⟩ := areadN_sim H hcs hp
            have hn' : l'.length = n := by rw [← hlr.1]; exact hn
            have h2 := run_sizeOf (w := w) hs
            have h3 := run_loadCells_of (P := P) p.b (p.s + i) l' hcell
            rw [hn'] at h3
            exact ⟨.agg l'.toArray, by simp [Instr.loadAt, Instr.sureAddr, loadVar, h1, h2, h3], .agg_of hlr⟩
  · cases hl

/-! Values of the program's text. -/

theorem plainV_sim {v : Value} (hv : plainV v = true) : VR ρ v v := by
  cases v with
  | bool b => exact .bool b
  | int k n => exact .int k n
  | string s => exact .string s
  | nilFunc => exact .nilFunc
  | nilIface => exact .nilIface
  | pointer a => cases a with
    | none => exact .pnil
    | some a => simp [plainV] at hv
  | slice a n c => cases a with
    | none => exact .snil n c (by simpa [plainV, Nat.blt_eq] using hv)
    | some a => simp [plainV] at hv
  | _ => simp [plainV] at hv

theorem LR.plain {l : List Value} (hl : l.all plainV = true) : LR ρ l l :=
  ⟨rfl, fun i x y hx hy => by
    rw [hx] at hy; cases hy
    exact plainV_sim (List.all_eq_true.1 hl x (List.mem_of_getElem? hx))⟩

theorem azero_sim {t : TypeId} {z : Value} (hz : azero P t = some z) : (P.info? t).bind (·.zero) = some z ∧ LR ρ z.cells.toList z.cells.toList := by
  unfold azero at hz
  cases he : (P.info? t).bind (·.zero) with
  | none => simp [he] at hz
  | some z' =>
    cases z' <;> simp only [he] at hz <;> first
      | (cases hz; done)
      | (split at hz
         · cases hz; exact ⟨rfl, LR.plain ‹_›⟩
         · cases hz)

theorem run_zeroValue {t : TypeId} {z : Value} (hz : (P.info? t).bind (·.zero) = some z) : (zeroValue t).run P w = .ok z w := by
  cases hi : P.info? t with
  | none => simp [hi] at hz
  | some i => simp [hi] at hz; simp [zeroValue, typeInfo, hi, hz]

/-! Built values. -/

def PR (ρ : Ren) (xs ys : List (Nat × Value)) : Prop := xs.map (·.1) = ys.map (·.1) ∧ LR ρ (xs.map (·.2)) (ys.map (·.2))

theorem LR.set {xs ys : List Value} (hx : LR ρ xs ys) {x y : Value} (hv : VR ρ x y) (i : Nat) : LR ρ (xs.set i x) (ys.set i y) := by
  refine ⟨by simp [hx.1], fun j a b ha hb => ?_⟩
  by_cases hij : i = j
  · subst hij
    rw [List.getElem?_set_self (by have := (List.getElem?_eq_some_iff.1 ha).1; simpa using this)] at ha
    rw [List.getElem?_set_self (by have := (List.getElem?_eq_some_iff.1 hb).1; simpa using this)] at hb
    cases ha; cases hb; exact hv
  · rw [List.getElem?_set_ne hij] at ha hb
    exact hx.2 j a b ha hb

theorem foldl_set_sim : ∀ (l l' : List Value) (off k : Nat) (cs cs' : Array Value), LR ρ l l' → LR ρ cs.toList cs'.toList →
    LR ρ ((l.zipIdx k).foldl (fun cs (c, j) => cs.setIfInBounds (off + j) c) cs).toList ((l'.zipIdx k).foldl (fun cs (c, j) => cs.setIfInBounds (off + j) c) cs').toList := by
  intro l
  induction l with
  | nil => intro l' off k cs cs' hl hc; rw [hl.nil_left]; exact hc
  | cons x xs ih =>
    intro l' off k cs cs' hl hc
    obtain ⟨y, ys, rfl, hv, hs⟩ := hl.uncons
    simp only [List.zipIdx_cons, List.foldl_cons]
    exact ih ys off (k + 1) _ _ hs (by simp only [Array.toList_setIfInBounds]; exact hc.set hv _)

theorem fill_sim (place : Nat → Option (Nat × Nat)) : ∀ (xs ys : List (Nat × Value)) (cs cs' r : Array Value), PR ρ xs ys → LR ρ cs.toList cs'.toList →
    Instr.fill place cs xs = some r → ∃ r', Instr.fill place cs' ys = some r' ∧ LR ρ r.toList r'.toList := by
  intro xs
  induction xs with
  | nil =>
    intro ys cs cs' r hp hc hf
    have : ys = [] := by have := hp.1; simp at this; exact this.symm ▸ rfl
    subst this
    simp [Instr.fill] at hf ⊢
    subst hf
    exact hc
  | cons x xs ih =>
    intro ys cs cs' r hp hc hf
    cases ys with
    | nil => have := hp.1; simp at this
    | cons y ys =>
      obtain ⟨i, v⟩ := x
      obtain ⟨j, u⟩ := y
      have hp1 := hp.1
      simp at hp1
      obtain ⟨rfl, hp1⟩ := hp1
      have hp2 := hp.2
      simp only [List.map_cons] at hp2
      obtain ⟨y', ys', he, hv, hs⟩ := hp2.uncons
      cases he
      have hvc := hv.cells
      have hvs : v.cells.size = u.cells.size := by simpa using hvc.1
      have hcs : cs.size = cs'.size := by simpa using hc.1
      simp only [Instr.fill] at hf ⊢
      cases hpl : place i with
      | none => simp [hpl] at hf
      | some os =>
        obtain ⟨off, size⟩ := os
        simp only [hpl] at hf ⊢
        rw [← hvs, ← hcs]
        split at hf
        · cases hf
        · rename_i hcond
          rw [if_neg hcond]
          refine ih ys _ _ r ⟨hp1, hs⟩ ?_ hf
          rw [← Array.foldl_toList, ← Array.foldl_toList, Array.toList_zipIdx, Array.toList_zipIdx]
          exact foldl_set_sim _ _ _ _ _ _ hvc hc

theorem abuild_sim {t : TypeId} {xs : Array (Nat × Value)} {l : List (Nat × Value)} {v : Value} (hb : abuild P t l = some v) (hx : PR ρ l xs.toList) :
    ∃ v', (Instr.build t xs).run P w = .ok v' w ∧ VR ρ v v' := by
  unfold abuild at hb
  simp only [Option.bind_eq_bind] at hb
  cases hz : azero P t with
  | none => simp [hz] at hb
  | some z =>
    simp only [hz, Option.bind_some, Option.map_eq_some_iff] at hb
    obtain ⟨cells, hc, rfl⟩ := hb
    obtain ⟨hz1, hz2⟩ := azero_sim (ρ := ρ) hz
    have key : ∃ cells', P.built t xs.toList = some cells' ∧ LR ρ cells.toList cells'.toList := by
      unfold Program.built at hc ⊢
      cases hi : P.info? t with
      | none => simp [hi] at hc
      | some it =>
        simp [hi] at hz1
        cases hu : P.underlying t with
        | none => simp [hi, hu] at hc
        | some d =>
          cases d <;> simp only [hi, hu, hz1] at hc ⊢ <;> try (cases hc; done)
          case array n e =>
            cases hie : P.info? e with
            | none => simp [hie] at hc
            | some ie =>
              simp only [hie] at hc ⊢
              exact fill_sim _ _ _ _ _ _ hx hz2 hc
          case struct fields =>
            generalize hm : fields.toList.mapM (fun f => (P.info? f.type).map fun i => (f.offset, i.size)) = m at hc ⊢
            cases m with
            | none => cases hc
            | some places => exact fill_sim _ _ _ _ _ _ hx hz2 hc
    obtain ⟨cells', hc', hl⟩ := key
    refine ⟨.agg cells', run_build w t xs cells' hc', ?_⟩
    have := VR.agg_of hl
    simpa using this

/-! Addresses. -/

theorem afieldAddr_sim {s : TypeId} {a a' v : Value} {f : Nat} (hf : afieldAddr P s a f = some v) (ha : VR ρ a a') :
    ∃ v', (Instr.fieldAt s a' f).run P w = .ok v' w ∧ VR ρ v v' := by
  unfold afieldAddr at hf
  split at hf
  · rename_i fields b i hu
    cases ha with
    | ptr i hp =>
      rename_i p
      simp only [Option.bind_eq_bind] at hf
      cases hfd : fields[f]? with
      | none => simp [hfd] at hf
      | some fd =>
        simp only [hfd, Option.bind_some] at hf
        cases hs : asize P fd.type with
        | none => simp [hs] at hf
        | some n =>
          simp only [hs, Option.bind_some] at hf
          split at hf
          · cases hf
          · rename_i hn
            cases hf
            have h1 := run_underlying hu w
            have h2 := run_sizeOf (w := w) hs
            refine ⟨.pointer (some ⟨p.b, p.s + (i + fd.offset), none⟩), ?_, .ptr _ hp⟩
            simp [Instr.fieldAt, h1, hfd, Instr.sureAddr, fieldPlace, h2, hn, Addr.add_none, Nat.add_assoc]
  · cases hf

theorem aindexAddr_sim {t : TypeId} {x x' i i' v : Value} (hf : aindexAddr P t x i = some v) (hx : VR ρ x x') (hi : VR ρ i i') :
    ∃ v', (Instr.indexAt t x' i').run P w = .ok v' w ∧ VR ρ v v' := by
  unfold aindexAddr at hf
  split at hf
  · rename_i len elem b o k n hu
    cases hi
    cases hx with
    | ptr o hp =>
      rename_i p
      simp only [Option.bind_eq_bind] at hf
      cases hs : asize P elem with
      | none => simp [hs] at hf
      | some sz =>
        simp only [hs, Option.bind_some] at hf
        split at hf
        · rename_i hr
          cases hf
          have h2 := run_sizeOf (w := w) hs
          refine ⟨.pointer (some ⟨p.b, p.s + (o + n.toNat * sz), none⟩), ?_, .ptr _ hp⟩
          simp [Instr.indexAt, run_underlying hu, asIntOf, Instr.sureAddr, hr, h2, Addr.add_none, Nat.add_assoc]
        · cases hf
  · rename_i elem b o len cap k n hu
    cases hi
    simp only [Option.bind_eq_bind] at hf
    cases hs : asize P elem with
    | none => simp [hs] at hf
    | some sz =>
      simp only [hs, Option.bind_some] at hf
      split at hf
      · rename_i hr
        cases hf
        have h2 := run_sizeOf (w := w) hs
        cases hx with
        | slice o n' c hp hc =>
          rename_i p
          refine ⟨.pointer (some ⟨p.b, p.s + (o + n.toNat * sz), none⟩), ?_, .ptr _ hp⟩
          simp [Instr.indexAt, run_underlying hu, asIntOf, hr, h2, Addr.add_none, Nat.add_assoc]
        | opn o n' c hp hc hz =>
          rename_i p
          refine ⟨.pointer (some ⟨p.b, p.s + (o + n.toNat * sz), none⟩), ?_, .ptr _ hp⟩
          simp [Instr.indexAt, run_underlying hu, asIntOf, hr, h2, Addr.add_none, Nat.add_assoc]
      · cases hf
  · cases hf

/-! Parts of values. -/

theorem LR.extract {xs ys : Array Value} (hx : LR ρ xs.toList ys.toList) (a b : Nat) : LR ρ (xs.extract a b).toList (ys.extract a b).toList := by
  have h1 : xs.size = ys.size := by simpa using hx.1
  refine ⟨by simp [h1], fun i x y hx' hy' => ?_⟩
  simp only [Array.toList_extract, List.extract_eq_take_drop] at hx' hy'
  have hi : i < b - a := by
    rcases Nat.lt_or_ge i (b - a) with h | h
    · exact h
    · rw [List.getElem?_eq_none (by simp; omega)] at hx'; cases hx'
  rw [List.getElem?_take_of_lt hi, List.getElem?_drop] at hx' hy'
  exact hx.2 _ x y hx' hy'

theorem apart_sim {t : TypeId} {xs ys : Array Value} {off : Nat} {v : Value} (hf : apart P t xs off = some v) (hx : LR ρ xs.toList ys.toList) :
    ∃ v', (part t ys off).run P w = .ok v' w ∧ VR ρ v v' := by
  unfold apart at hf
  simp only [Option.bind_eq_bind] at hf
  cases hg : aisAgg P t with
  | none => simp [hg] at hf
  | some r =>
    have h1 := run_isAgg (w := w) hg
    cases r with
    | false =>
      simp [hg] at hf
      obtain ⟨y, hy, hv⟩ := hx.get (i := off) (x := v) (by simpa using hf)
      exact ⟨y, by simp at hy; simp [part, h1, hy], hv⟩
    | true =>
      simp [hg] at hf
      cases hs : asize P t with
      | none => simp [hs] at hf
      | some n =>
        simp [hs] at hf
        subst hf
        have h2 := run_sizeOf (w := w) hs
        refine ⟨.agg (ys.extract off (off + n)), by simp [part, h1, h2], ?_⟩
        exact VR.agg_arr (hx.extract off (off + n))

theorem afield_sim {t : TypeId} {x x' v : Value} {f : Nat} (hf : afield P t x f = some v) (hx : VR ρ x x') :
    ∃ v', (Instr.field t x' f).run P w = .ok v' w ∧ VR ρ v v' := by
  unfold afield at hf
  split at hf
  · rename_i fields cs hu
    obtain ⟨ys, rfl, hl⟩ := hx.agg_inv
    simp only [Option.bind_eq_bind] at hf
    cases hfd : fields[f]? with
    | none => simp [hfd] at hf
    | some fd =>
      simp only [hfd, Option.bind_some] at hf
      obtain ⟨v', hr, hv⟩ := apart_sim (w := w) hf hl
      exact ⟨v', by simp [Instr.field, run_underlying hu, hfd, asAgg, hr], hv⟩
  · cases hf

theorem aindex_sim {t : TypeId} {x x' i i' v : Value} (hf : aindex P t x i = some v) (hx : VR ρ x x') (hi : VR ρ i i') :
    ∃ v', (Instr.index t x' i').run P w = .ok v' w ∧ VR ρ v v' := by
  unfold aindex at hf
  split at hf
  · rename_i len elem cs k n hu
    cases hi
    obtain ⟨ys, rfl, hl⟩ := hx.agg_inv
    simp only [Option.bind_eq_bind] at hf
    cases hs : asize P elem with
    | none => simp [hs] at hf
    | some sz =>
      simp only [hs, Option.bind_some] at hf
      split at hf
      · rename_i hr
        obtain ⟨v', hr', hv⟩ := apart_sim (w := w) hf hl
        exact ⟨v', by simp [Instr.index, run_underlying hu, asIntOf, hr, run_sizeOf (w := w) hs, hr'], hv⟩
      · cases hf
  · rename_i s k n hu
    cases hi
    cases hx
    split at hf
    · rename_i hr
      cases hb : s[n.toNat]? with
      | none => simp [hb] at hf
      | some b =>
        simp [hb] at hf
        subst hf
        exact ⟨_, by simp [Instr.index, run_underlying hu, asIntOf, hr, hb], .int _ _⟩
    · cases hf
  · cases hf

end Go.Am

/-
  The abstract machine: slices, arithmetic, comparisons; all quiet operations together.
-/
namespace Go.Am
open Go Go.RowKit

variable {P : Program} {ρ : Ren} {w0 w : World} {h : AHeap}

/-! Slice expressions. -/

/-- Related bounds: none, or the same number. -/
inductive BR : Option Value → Option Value → Prop where
  | none : BR none none
  | int (k : IntKind) (n : Int) : BR (some (.int k n)) (some (.int k n))

theorem run_bound_some {k : IntKind} {i : Int} {y y' n : Nat} {code : BoundsCode} {d : Nat} (hb : abound (some (.int k i)) d y = some n) (hy : y ≤ y') :
    (Instr.sliceBound (.int k i) y' code).run P w = .ok n w ∧ n ≤ y := by
  unfold abound at hb
  simp only at hb
  split at hb
  · rename_i hc
    cases hb
    have : 0 ≤ i ∧ i ≤ (y' : Int) := ⟨hc.1, by omega⟩
    exact ⟨by simp [Instr.sliceBound, asIntOf, this], by omega⟩
  · cases hb

theorem abound_none {d y n : Nat} (hb : abound none d y = some n) : n = d ∧ d ≤ y := by
  unfold abound at hb
  simp only at hb
  split at hb
  · cases hb; exact ⟨rfl, ‹_›⟩
  · cases hb

theorem abound_int {v : Value} {d y n : Nat} (hb : abound (some v) d y = some n) : ∃ k i, v = .int k i := by
  unfold abound at hb
  cases v <;> first | exact ⟨_, _, rfl⟩ | (simp at hb; done)

theorem VR.int_inv {k : IntKind} {n : Int} {y : Value} (h : VR ρ (.int k n) y) : y = .int k n := by cases h; rfl

/-- The three bounds: l, h, m as the model reckons them, where the capacity may be greater than ours. -/
theorem run_sliceBounds (isSlice : Bool) {len cap top m hh l : Nat} {lo hi mx lo' hi' mx' : Option Value}
    (hlo : ∀ v, lo = some v → ∃ v', lo' = some v' ∧ VR ρ v v') (hlo0 : lo = none → lo' = none)
    (hhi : ∀ v, hi = some v → ∃ v', hi' = some v' ∧ VR ρ v v') (hhi0 : hi = none → hi' = none)
    (hmx : ∀ v, mx = some v → ∃ v', mx' = some v' ∧ VR ρ v v') (hmx0 : mx = none → mx' = none)
    (htop : top ≤ cap) (hm : abound mx top top = some m)
    (hh1 : ahi hi mx len m = some hh)
    (hl : abound lo 0 hh = some l) :
    (Instr.sliceBounds isSlice len cap lo' hi' mx').run P w = .ok (l, hh, if mx.isNone then cap else m) w := by
  have low : ∀ (y c : Nat) code, y = hh → ((match lo' with | some v => (do let l ← Instr.sliceBound v y code; pure (l, y, c)) | none => (do let l ← pure 0; pure (l, y, c))) : Sem (Nat × Nat × Nat)).run P w = .ok (l, hh, c) w := by
    intro y c code hy
    subst hy
    cases lo with
    | none => rw [hlo0 rfl]; have := (abound_none hl).1; subst this; rfl
    | some v =>
      obtain ⟨v', e, hv⟩ := hlo v rfl
      obtain ⟨k, i, rfl⟩ := abound_int hl
      rw [e, hv.int_inv]
      simp only [Sem.run_bind]
      rw [(run_bound_some hl (Nat.le_refl _)).1]; rfl
  cases mx with
  | none =>
    obtain ⟨rfl, _⟩ := abound_none hm
    have e := hmx0 rfl
    subst e
    cases hi with
    | none =>
      have e := hhi0 rfl
      subst e
      simp [ahi] at hh1
      subst hh1
      simp only [Instr.sliceBounds, Sem.run_bind, Sem.run_pure, Result.andThen_ok]
      exact low len cap .sliceB rfl
    | some v =>
      obtain ⟨v', e, hv⟩ := hhi v rfl
      simp only [ahi] at hh1
      obtain ⟨k, i, rfl⟩ := abound_int hh1
      subst e
      rw [hv.int_inv]
      have h2 := (run_bound_some (P := P) (w := w) (code := if isSlice then .sliceAcap else .sliceAlen) hh1 htop).1
      simp only [Instr.sliceBounds, Sem.run_bind, Sem.run_pure, Result.andThen_ok]
      rw [h2]
      exact low hh cap .sliceB rfl
  | some vm =>
    obtain ⟨vm', e, hvm⟩ := hmx vm rfl
    obtain ⟨k, i, rfl⟩ := abound_int hm
    subst e
    rw [hvm.int_inv]
    have h1 := run_bound_some (P := P) (w := w) (code := if isSlice then .slice3Acap else .slice3Alen) hm htop
    cases hi with
    | none => simp [ahi] at hh1
    | some v =>
      obtain ⟨v', e, hv⟩ := hhi v rfl
      simp only [ahi] at hh1
      obtain ⟨k', i', rfl⟩ := abound_int hh1
      subst e
      rw [hv.int_inv]
      have h2 := (run_bound_some (P := P) (w := w) (code := .slice3B) hh1 (Nat.le_refl _)).1
      simp only [Instr.sliceBounds, Sem.run_bind]
      rw [h1.1]
      simp only [Result.andThen_ok]
      rw [h2]
      exact low hh m .slice3C rfl

theorem hh_le {hi mx : Option Value} {len m hh : Nat} (hh1 : ahi hi mx len m = some hh) (hlm : len ≤ m ∨ mx.isSome = true) :
    hh ≤ m := by
  cases hi with
  | none =>
    cases mx with
    | none => simp [ahi] at hh1; subst hh1; simpa using hlm
    | some v => simp [ahi] at hh1
  | some v =>
    simp only [ahi] at hh1
    obtain ⟨k, i, rfl⟩ := abound_int hh1
    exact (run_bound_some (P := default) (w := default) (code := .index) hh1 (Nat.le_refl _)).2

theorem ll_le {lo : Option Value} {hh l : Nat} (hl : abound lo 0 hh = some l) : l ≤ hh := by
  cases lo with
  | none => have := abound_none hl; omega
  | some v =>
    obtain ⟨k, i, rfl⟩ := abound_int hl
    exact (run_bound_some (P := default) (w := default) (code := .index) hl (Nat.le_refl _)).2

/-- The operands of a slice expression. -/
structure OpR (ρ : Ren) (x y : Option Value) : Prop where
  of : ∀ v, x = some v → ∃ v', y = some v' ∧ VR ρ v v'
  nil : x = none → y = none

theorem OpR.isNone {x y : Option Value} (H : OpR ρ x y) : x.isNone = y.isNone := by
  cases x with
  | none => rw [H.nil rfl]
  | some v => obtain ⟨v', e, _⟩ := H.of v rfl; rw [e]; rfl

theorem OpR.of_map {x : Option Operand} {ev ev' : Operand → Value} (H : ∀ a, x = some a → VR ρ (ev a) (ev' a)) : OpR ρ (x.map ev) (x.map ev') := by
  cases x with
  | none => exact ⟨fun v e => by simp at e, fun _ => rfl⟩
  | some a => exact ⟨fun v e => by simp at e; exact ⟨ev' a, rfl, e ▸ H a rfl⟩, fun e => by simp at e⟩

theorem run_bounds (isSlice : Bool) {len cap top m hh l : Nat} {lo hi mx lo' hi' mx' : Option Value} (hlo : OpR ρ lo lo') (hhi : OpR ρ hi hi') (hmx : OpR ρ mx mx')
    (htop : top ≤ cap) (hm : abound mx top top = some m) (hh1 : ahi hi mx len m = some hh) (hl : abound lo 0 hh = some l) :
    (Instr.sliceBounds isSlice len cap lo' hi' mx').run P w = .ok (l, hh, if mx.isNone then cap else m) w :=
  run_sliceBounds isSlice hlo.of hlo.nil hhi.of hhi.nil hmx.of hmx.nil htop hm hh1 hl

theorem abound_le {x : Option Value} {d y n : Nat} (hb : abound x d y = some n) : n ≤ y := by
  cases x with
  | none => have := abound_none hb; omega
  | some v =>
    obtain ⟨k, i, rfl⟩ := abound_int hb
    exact (run_bound_some (P := default) (w := default) (code := .index) hb (Nat.le_refl _)).2

theorem aslice_sim (H : HR P ρ w0 h w) {t : TypeId} {x x' v : Value} {lo hi mx lo' hi' mx' : Option Value} (hf : aslice P h t x lo hi mx = some v) (hx : VR ρ x x')
    (hlo : OpR ρ lo lo') (hhi : OpR ρ hi hi') (hmx : OpR ρ mx mx') :
    ∃ v', (Instr.sliceAt t x' lo' hi' mx').run P w = .ok v' w ∧ VR ρ v v' := by
  unfold aslice at hf
  split at hf
  · rename_i s hu
    cases hx
    simp only [Option.bind_eq_bind] at hf
    split at hf
    · cases hf
    · rename_i hmn
      cases mx with
      | some v => simp at hmn
      | none =>
      have e := hmx.nil rfl
      subst e
      cases hh1 : ahi hi none s.size s.size with
      | none => simp [hh1] at hf
      | some hh =>
        simp only [hh1, Option.bind_some] at hf
        cases hl : abound lo 0 hh with
        | none => simp [hl] at hf
        | some l =>
          simp only [hl, Option.bind_some, Option.some.injEq] at hf
          subst hf
          have hb := run_bounds (P := P) (w := w) false (m := s.size) hlo hhi hmx (Nat.le_refl s.size) (by simp [abound]) hh1 hl
          exact ⟨_, by simp [Instr.sliceAt, Instr.slice, run_underlying hu, hb], .string _⟩
  · rename_i elem a len cap hu
    simp only [Option.bind_eq_bind] at hf
    cases hs : asize P elem with
    | none => simp [hs] at hf
    | some size =>
      have h2 := run_sizeOf (w := w) hs
      simp only [hs, Option.bind_some] at hf
      split at hf
      · rename_i hcap
        cases hm : abound mx cap cap with
        | none => simp [hm] at hf
        | some m =>
        simp only [hm, Option.bind_some] at hf
        cases hh1 : ahi hi mx len m with
        | none => simp [hh1] at hf
        | some hh =>
        simp only [hh1, Option.bind_some] at hf
        cases hl : abound lo 0 hh with
        | none => simp [hl] at hf
        | some l =>
        simp only [hl, Option.bind_some] at hf
        have hb := run_bounds (P := P) (w := w) true hlo hhi hmx (Nat.le_refl cap) hm hh1 hl
        have hmm : (if mx.isNone then cap else m) = m := by
          cases mx with
          | none => have := (abound_none hm).1; subst this; rfl
          | some _ => rfl
        rw [hmm] at hb
        have hml := abound_le hm
        cases hx with
        | snil n c hc =>
          simp only [Option.some.injEq] at hf
          subst hf
          refine ⟨.slice none (hh - l) (m - l), ?_, .snil _ _ (by omega)⟩
          simp [Instr.sliceAt, Instr.slice, run_underlying hu, hb, h2]
        | slice i n c hp hc =>
          rename_i b p
          simp only [Option.some.injEq] at hf
          subst hf
          refine ⟨.slice (some ⟨p.b, p.s + (if m = l then i else i + l * size), none⟩) (hh - l) (m - l), ?_, .slice _ _ _ hp (by omega)⟩
          by_cases hml' : m = l
          · simp [Instr.sliceAt, Instr.slice, run_underlying hu, hb, h2, hml']
          · simp [Instr.sliceAt, Instr.slice, run_underlying hu, hb, h2, hml', Addr.add_none, Nat.add_assoc]
        | opn i n c hp hn hz => exact absurd hcap (Nat.lt_irrefl _)
        | void a c k hk => omega
      · split at hf
        · rename_i hnc hcap
          obtain ⟨hcap, hlb⟩ := hcap
          cases hm : abound mx len len with
          | none => simp [hm] at hf
          | some m =>
          simp only [hm, Option.bind_some] at hf
          cases hh1 : ahi hi mx len m with
          | none => simp [hh1] at hf
          | some hh =>
          simp only [hh1, Option.bind_some] at hf
          cases hl : abound lo 0 hh with
          | none => simp [hl] at hf
          | some l =>
          simp only [hl, Option.bind_some] at hf
          cases hx with
          | snil n c hc => omega
          | slice i n c hp hc => omega
          | void a c k hk =>
            have hb := run_bounds (P := P) (w := w) true hlo hhi hmx (Nat.zero_le c) hm hh1 hl
            simp only [if_true, Option.some.injEq] at hf
            subst hf
            have hm0 := abound_le hm
            have hh0 : hh ≤ m := by
              unfold ahi at hh1
              cases hi with
              | some v => exact abound_le hh1
              | none => cases mx with
                | some v => simp at hh1
                | none =>
                  obtain ⟨rfl, _⟩ := abound_none hm
                  simp at hh1; omega
            have hl0 := abound_le hl
            have e1 : l = 0 := by omega
            have e2 : hh = 0 := by omega
            subst e1; subst e2
            have e3 : (if (if mx = none then c else m) = 0 then some a else some (a.add 0)) = some (if (if mx = none then c else m) = 0 then a else a.add 0) := by
              by_cases hq : (if mx = none then c else m) = 0
              · rw [if_pos hq, if_pos hq]
              · rw [if_neg hq, if_neg hq]
            exact ⟨.slice (some (if (if mx = none then c else m) = 0 then a else a.add 0)) 0 (if mx = none then c else m), by rw [← e3]; simp [Instr.sliceAt, Instr.slice, run_underlying hu, hb, h2], .void _ _ _ (by cases mx <;> simp <;> omega)⟩
          | opn i n c hp hn hz =>
            rename_i b p
            have hb := run_bounds (P := P) (w := w) true hlo hhi hmx hn hm hh1 hl
            simp only at hf
            have hml := abound_le hm
            split at hf
            · rename_i hms
              have : mx.isNone = false := by cases mx <;> simp_all
              rw [this] at hb
              simp only [Option.some.injEq] at hf
              subst hf
              refine ⟨.slice (some ⟨p.b, p.s + (if m = l then i else i + l * size), none⟩) (hh - l) (m - l), ?_, .slice _ _ _ hp ?_⟩
              · by_cases hml' : m = l
                · simp [Instr.sliceAt, Instr.slice, run_underlying hu, hb, h2, hml']
                · simp [Instr.sliceAt, Instr.slice, run_underlying hu, hb, h2, hml', Addr.add_none, Nat.add_assoc]
              · omega
            · rename_i hms
              have : mx.isNone = true := by cases mx <;> simp_all
              rw [this] at hb
              have hmn : mx = none := by cases mx <;> simp_all
              subst hmn
              obtain ⟨rfl, _⟩ := abound_none hm
              have hhl : hh ≤ m := by
                unfold ahi at hh1
                cases hi with
                | none => simp at hh1; omega
                | some v => exact abound_le hh1
              split at hf
              · rename_i hl0
                subst hl0
                simp only [Option.some.injEq] at hf
                subst hf
                refine ⟨.slice (some ⟨p.b, p.s + i, none⟩) hh c, ?_, .opn _ _ _ hp (by omega) hz⟩
                simp [Instr.sliceAt, Instr.slice, run_underlying hu, hb, h2, Addr.add_none]
              · split at hf
                · rename_i hl0 hlt
                  obtain ⟨hlt, he⟩ := hlt
                  simp only [Option.some.injEq] at hf
                  subst hf
                  have hpe : p.e = size := by
                    unfold eszOf at he
                    have ho := (H.obj _ _ hp).2
                    cases hg : h.get b with
                    | cells cs e => rw [hg] at he ho; simp at he; exact ho.2.1.trans he
                    | _ => rw [hg] at he; simp at he
                  refine ⟨.slice (some ⟨p.b, p.s + (i + l * size), none⟩) (hh - l) (c - l), ?_, .opn _ _ _ hp (by omega) ?_⟩
                  · have hcl : ¬ c = l := by omega
                    simp [Instr.sliceAt, Instr.slice, run_underlying hu, hb, h2, hcl, Addr.add_none, Nat.add_assoc]
                  · rw [hpe] at hz ⊢
                    have : (c - l) * size + l * size = c * size := by rw [← Nat.add_mul]; congr 1; omega
                    omega
                · split at hf
                  · rename_i hlm
                    simp only [Option.some.injEq] at hf
                    subst hf
                    have hll : l ≤ hh := abound_le hl
                    have h0 : hh - l = 0 := by omega
                    refine ⟨.slice (some ⟨p.b, p.s + (if c = l then i else i + l * size), none⟩) 0 (c - l), ?_, .void _ _ _ (.inl rfl)⟩
                    by_cases hcl : c = l
                    · subst hcl
                      simp [Instr.sliceAt, Instr.slice, run_underlying hu, hb, h2, h0]
                    · simp [Instr.sliceAt, Instr.slice, run_underlying hu, hb, h2, hcl, h0, Addr.add_none, Nat.add_assoc]
                  · cases hf
        · split at hf
          · rename_i hnb hcap
            obtain ⟨hcap, hlen⟩ := hcap
            cases hm : abound mx 0 0 with
            | none => simp [hm] at hf
            | some m =>
            simp only [hm, Option.bind_some] at hf
            cases hh1 : ahi hi mx 0 m with
            | none => simp [hh1] at hf
            | some hh =>
            simp only [hh1, Option.bind_some] at hf
            cases hl : abound lo 0 hh with
            | none => simp [hl] at hf
            | some l =>
            simp only [hl, Option.bind_some] at hf
            cases hx with
            | snil n c hc => omega
            | slice i n c hp hc => omega
            | opn i n c hp hn hz => exact absurd hcap (by decide)
            | void a c k hk =>
              have hc0 : c = 0 := by omega
              subst hc0
              have hb := run_bounds (P := P) (w := w) true hlo hhi hmx (Nat.le_refl 0) hm hh1 hl
              simp only [Option.some.injEq] at hf
              subst hf
              have hm0 := abound_le hm
              have hh0 : hh ≤ m := by
                unfold ahi at hh1
                cases hi with
                | some v => exact abound_le hh1
                | none => cases mx with
                  | some v => simp at hh1
                  | none =>
                    obtain ⟨rfl, _⟩ := abound_none hm
                    simp at hh1; omega
              have hl0 := abound_le hl
              have e1 : l = 0 := by omega
              have e2 : hh = 0 := by omega
              have e3 : m = 0 := by omega
              subst e1; subst e2; subst e3
              exact ⟨.slice (some a) 0 0, by simp [Instr.sliceAt, Instr.slice, run_underlying hu, hb, h2], .void _ _ _ (.inr ⟨rfl, rfl⟩)⟩
          · cases hf
  · rename_i n elem b o hu
    cases hx with
    | ptr i hp =>
    rename_i p
    simp only [Option.bind_eq_bind] at hf
    cases hs : asize P elem with
    | none => simp [hs] at hf
    | some size =>
      have h2 := run_sizeOf (w := w) hs
      simp only [hs, Option.bind_some] at hf
      split at hf
      · rename_i hcap
        cases hm : abound mx n n with
        | none => simp [hm] at hf
        | some m =>
        simp only [hm, Option.bind_some] at hf
        cases hh1 : ahi hi mx n m with
        | none => simp [hh1] at hf
        | some hh =>
        simp only [hh1, Option.bind_some] at hf
        cases hl : abound lo 0 hh with
        | none => simp [hl] at hf
        | some l =>
        simp only [hl, Option.bind_some, Option.some.injEq] at hf
        have hb := run_bounds (P := P) (w := w) false hlo hhi hmx (Nat.le_refl n) hm hh1 hl
        have hmm : (if mx.isNone then n else m) = m := by
          cases mx with
          | none => have := (abound_none hm).1; subst this; rfl
          | some _ => rfl
        rw [hmm] at hb
        have hml := abound_le hm
        subst hf
        refine ⟨.slice (some ⟨p.b, p.s + (if m = l then o else o + l * size), none⟩) (hh - l) (m - l), ?_, .slice _ _ _ hp (by omega)⟩
        by_cases hml' : m = l
        · simp [Instr.sliceAt, Instr.sureAddr, run_underlying hu, hb, h2, hml']
        · simp [Instr.sliceAt, Instr.sureAddr, run_underlying hu, hb, h2, hml', Addr.add_none, Nat.add_assoc]
      · cases hf
  · cases hf

end Go.Am

/-
  The abstract machine: arithmetic, comparisons; all quiet operations together.
-/
namespace Go.Am
open Go Go.RowKit

variable {P : Program} {ρ : Ren} {w0 w : World} {h : AHeap}

theorem asame_sim {t : TypeId} {d : TypeDesc} {x x' y y' : Value} {r : Bool} (hu : P.underlying t = some d) (hs : asame d x y = some r) (hx : VR ρ x x') (hy : VR ρ y y') (n : Nat) :
    (Op.equalIn (n + 1) t x' y').run P w = .ok r w := by
  unfold asame at hs
  split at hs
  · cases hx; cases hy
    split at hs
    · rename_i hk
      subst hk
      cases hs
      exact run_equalIn_int w n t _ _ _ _ hu
    · cases hs
  · cases hx; cases hy; cases hs; exact run_equalIn_bool' w n t _ _ hu
  · cases hx; cases hy; cases hs
    rw [run_equalIn_string w n t _ _ hu, beq_toListBytes]
  · cases hs

theorem aeqFields_sim {eq : TypeId → Value → Value → Option Bool} {n : Nat}
    (ih : ∀ (t : TypeId) (x x' y y' : Value) (r : Bool), eq t x y = some r → VR ρ x x' → VR ρ y y' → (Op.equalIn n t x' y').run P w = .ok r w)
    {xs xs' ys ys' : Array Value} (hx : LR ρ xs.toList xs'.toList) (hy : LR ρ ys.toList ys'.toList) :
    ∀ (fs : List Field) (r : Bool), aeqFields P eq xs ys fs = some r → (Op.eqFields n xs' ys' fs).run P w = .ok r w := by
  intro fs
  induction fs with
  | nil => intro r hr; simp [aeqFields] at hr; subst hr; rfl
  | cons f fs ihf =>
    intro r hr
    simp only [aeqFields] at hr
    split at hr
    · cases hr
    · rename_i hn
      split at hr
      · rename_i a b ha hb
        obtain ⟨a', ra, va⟩ := apart_sim (w := w) ha hx
        obtain ⟨b', rb, vb⟩ := apart_sim (w := w) hb hy
        simp only [Op.eqFields, ne_eq, hn, not_false_eq_true, if_true, Sem.run_bind, ra, rb, Result.andThen_ok]
        split at hr
        · rename_i he
          rw [ih f.type a a' b b' true he va vb]
          simp only [Result.andThen_ok, Bool.not_true, Bool.false_eq_true, if_false]
          exact ihf r hr
        · rename_i he
          cases hr
          rw [ih f.type a a' b b' false he va vb]
          rfl
        · cases hr
      · cases hr

theorem aequal_sim : ∀ (d : Nat) (t : TypeId) (x x' y y' : Value) (r : Bool) (n : Nat), d ≤ n → aequal P d t x y = some r → VR ρ x x' → VR ρ y y' →
    (Op.equalIn n t x' y').run P w = .ok r w := by
  intro d
  induction d with
  | zero => intro t x x' y y' r n _ hs; simp [aequal] at hs
  | succ d ih =>
    intro t x x' y y' r n hn hs hx hy
    obtain ⟨m, rfl⟩ : ∃ m, n = m + 1 := ⟨n - 1, by omega⟩
    unfold aequal at hs
    split at hs
    · rename_i fields xs ys hu
      split at hs
      · cases hs
      · rename_i hst
        obtain ⟨xs', rfl, hxl⟩ := hx.agg_inv
        obtain ⟨ys', rfl, hyl⟩ := hy.agg_inv
        have hf : P.fieldsOf t = fields := by simp [Program.fieldsOf, hu]
        rw [run_equalIn_struct w m t xs' ys' (by rw [hf]; exact hu) (by simpa using hst), hf]
        exact aeqFields_sim (fun t x x' y y' r h1 h2 h3 => ih t x x' y y' r m (by omega) h1 h2 h3) hxl hyl _ _ hs
    · rename_i a p b q hu
      have key : ∀ (a : Option Addr) (n p : Nat) (y : Value), VR ρ (.slice a n p) y → ∃ a' n' p', y = .slice a' n' p' ∧ nilS a p = a'.isNone := by
        intro a n p y hy
        cases hy with
        | snil _ _ hc => exact ⟨_, _, _, rfl, by simp [nilS, Nat.blt_eq, hc]⟩
        | slice _ _ _ hp hc => exact ⟨_, _, _, rfl, rfl⟩
        | opn _ _ _ hp _ _ => exact ⟨_, _, _, rfl, rfl⟩
        | void _ _ _ hk =>
          refine ⟨_, _, _, rfl, ?_⟩
          have : ¬ p < big := by omega
          cases hb : Nat.blt p big with
          | false => simp [nilS, hb]
          | true => exact absurd (by simpa [Nat.blt_eq] using hb) this
      obtain ⟨a', n1, p', rfl, e1⟩ := key _ _ _ _ hx
      obtain ⟨b', n2, q', rfl, e2⟩ := key _ _ _ _ hy
      rw [e1, e2] at hs
      cases a' with
      | none =>
        simp at hs
        subst hs
        simp [Op.equalIn, run_underlying hu]
      | some a' =>
        cases b' with
        | none =>
          simp at hs
          subst hs
          simp [Op.equalIn, run_underlying hu]
        | some b' => simp at hs
    · rename_i hu
      cases hx; cases hy; cases hs; simp [Op.equalIn, run_underlying hu]
    · rename_i hu
      cases hx; cases hy; cases hs; simp [Op.equalIn, run_underlying hu]
    · rename_i hu
      cases hx; cases hy; cases hs; simp [Op.equalIn, run_underlying hu]
    · rename_i hu
      cases hx; cases hs
      cases hy <;> simp [Op.equalIn, run_underlying hu]
    · rename_i hnn hu
      cases hy; cases hs
      cases hx <;> first | exact (hnn rfl).elim | simp [Op.equalIn, run_underlying hu]
    · exact asame_sim (by assumption) hs hx hy m
    · cases hs

theorem run_eqGuard_ok {op : BinOp} {t : TypeId} {x y : Operand} {a a' b' : Value} (hg : noGuard P t a = true) (ha : VR ρ a a') :
    (eqGuard op t x y a' b').run P w = .ok () w := by
  cases ha <;> simp [noGuard] at hg <;> cases op <;> cases b' <;> simp [eqGuard, hg]

theorem abinOp_sim {op : BinOp} {t : TypeId} {ox oy : Operand} {x x' y y' v : Value} (hf : abinOp P op t x y = some v) (hx : VR ρ x x') (hy : VR ρ y y') :
    ∃ v', (do eqGuard op t ox oy x' y'; binOp op t x' y' : Sem Value).run P w = .ok v' w ∧ VR ρ v v' := by
  unfold abinOp at hf
  split at hf
  · cases hx; cases hy
    split at hf
    · cases hf
    · rename_i hb
      cases hf
      exact ⟨_, by simp [eqGuard, binOp_shl, Op.shift, hb], .int _ _⟩
  · cases hx; cases hy
    split at hf
    · cases hf
    · rename_i hb
      cases hf
      exact ⟨_, by simp [eqGuard, binOp_shr, Op.shift, hb], .int _ _⟩
  · cases hx; cases hy
    split at hf
    · cases hf
    · rename_i hk
      have hk' := Decidable.not_not.1 hk
      subst hk'
      split at hf <;> first
        | (cases hf; exact ⟨_, by simp [eqGuard, binOp, Op.intArith, Op.intBits, Op.intCmp], .int _ _⟩)
        | (cases hf; exact ⟨_, by simp [eqGuard, binOp, Op.intArith, Op.intBits, Op.intCmp], .bool _⟩)
        | (split at hf
           · cases hf
           · rename_i hb; cases hf; exact ⟨_, by simp [eqGuard, binOp, Op.intDiv, hb], .int _ _⟩)
        | (cases hf; done)
  · cases hx; cases hy
    split at hf
    · split at hf
      · cases hf
      · rename_i hb; cases hf
        have hm : IntKind.i64.max = 9223372036854775807 := by decide
        rw [hm] at hb
        refine ⟨_, ?_, .string _⟩
        simp [eqGuard, binOp]
        exact run_string_add_sum (P := P) (w := w) _ _ (by omega)
    · cases hf; exact ⟨_, by simp [eqGuard, binOp, Op.stringOp], .bool _⟩
    · cases hf; exact ⟨_, by simp [eqGuard, binOp, Op.stringOp], .bool _⟩
    · cases hf; exact ⟨_, by simp [eqGuard, binOp, Op.stringOp], .bool _⟩
    · cases hf
  · split at hf
    · rename_i hg
      simp only [Option.map_eq_some_iff] at hf
      obtain ⟨r, hr, rfl⟩ := hf
      have h1 := aequal_sim (P := P) (w := w) 100 t x x' y y' r 10000 (by omega) hr hx hy
      refine ⟨.bool r, ?_, .bool r⟩
      have h2 := run_eqGuard_ok (P := P) (w := w) (op := .eql) (x := ox) (y := oy) (b' := y') hg hx
      have h3 : binOp .eql t x' y' = (do pure (.bool (← Op.equal t x' y'))) := by
        cases hx <;> cases hy <;> first | rfl | (simp_all; done) | (simp_all; rename_i hh; exact (hh _ _ _ _ rfl rfl rfl rfl).elim)
      simp only [Sem.run_bind, h2, Result.andThen_ok, h3, Op.equal, Op.maxDepth, h1, Sem.run_pure]
    · cases hf
  · split at hf
    · rename_i hg
      simp only [Option.map_eq_some_iff] at hf
      obtain ⟨r, hr, rfl⟩ := hf
      have h1 := aequal_sim (P := P) (w := w) 100 t x x' y y' r 10000 (by omega) hr hx hy
      refine ⟨.bool (!r), ?_, .bool _⟩
      have h2 := run_eqGuard_ok (P := P) (w := w) (op := .neq) (x := ox) (y := oy) (b' := y') hg hx
      have h3 : binOp .neq t x' y' = (do pure (.bool (!(← Op.equal t x' y')))) := by
        cases hx <;> cases hy <;> first | rfl | (simp_all; done) | (simp_all; rename_i hh; exact (hh _ _ _ _ rfl rfl rfl rfl).elim)
      simp only [Sem.run_bind, h2, Result.andThen_ok, h3, Op.equal, Op.maxDepth, h1, Sem.run_pure]
    · cases hf
  · cases hf

theorem aunOp_sim {op : UnOp} {x x' v : Value} (hf : aunOp op x = some v) (hx : VR ρ x x') : ∃ v', (Op.unary op x').run P w = .ok v' w ∧ VR ρ v v' := by
  unfold aunOp at hf
  split at hf
  · cases hx; cases hf; exact ⟨_, by simp [Op.unary, Op.intArith], .int _ _⟩
  · cases hx; cases hf; exact ⟨_, by simp [Op.unary, Op.intBits], .int _ _⟩
  · cases hx; cases hf; exact ⟨_, by simp [Op.unary], .bool _⟩
  · cases hf

theorem alen_sim {t ty : TypeId} {x x' v : Value} (hf : alen P t x = some v) (hx : VR ρ x x') : ∃ v', (Builtin.len_ #[t] ty #[x']).run P w = .ok v' w ∧ VR ρ v v' := by
  unfold alen at hf
  split at hf
  · rename_i s hu
    cases hx; cases hf; exact ⟨_, by simp [Builtin.len_, run_underlying hu, goInt], .int _ _⟩
  · rename_i n e hu
    cases hf; exact ⟨_, by simp [Builtin.len_, run_underlying hu, goInt], .int _ _⟩
  · rename_i hu
    cases hf
    cases hx <;> exact ⟨_, by simp [Builtin.len_, run_underlying hu, goInt], .int _ _⟩
  · cases hf

theorem acap_sim {t ty : TypeId} {x x' v : Value} (hf : acap P t x = some v) (hx : VR ρ x x') : ∃ v', (Builtin.cap_ #[t] ty #[x']).run P w = .ok v' w ∧ VR ρ v v' := by
  unfold acap at hf
  split at hf
  · rename_i hu
    split at hf
    · rename_i hb
      cases hf
      cases hx with
      | void a c k hk => omega
      | snil n c hc => exact ⟨_, by simp [Builtin.cap_, run_underlying hu, goInt], .int _ _⟩
      | slice i n c hp hc => exact ⟨_, by simp [Builtin.cap_, run_underlying hu, goInt], .int _ _⟩
      | opn i n c hp hn hz => exact absurd hb (Nat.lt_irrefl _)
    · split at hf
      · rename_i hb hb2
        cases hf
        cases hx with
        | void a c k hk =>
          have : c = 0 := by omega
          subst this
          exact ⟨_, by simp [Builtin.cap_, run_underlying hu, goInt], .int _ _⟩
        | snil n c hc => omega
        | slice i n c hp hc => omega
        | opn i n c hp hn hz => exact absurd hb2 (by decide)
      · cases hf
  · rename_i hu
    cases hf; exact ⟨_, by simp [Builtin.cap_, run_underlying hu, goInt], .int _ _⟩
  · cases hf

def amin2 (mx : Bool) (a b : Value) : Option Value :=
  match a, b with
  | .int k p, .int _ q => some (.int k (if mx then (if q > p then q else p) else (if q < p then q else p)))
  | _, _ => none

theorem amin_eq (mx : Bool) (x : Value) (l : List Value) : amin mx (x :: l) = l.foldlM (amin2 mx) x := rfl

theorem amin2_sim {mx : Bool} {a a' b b' v : Value} (hf : amin2 mx a b = some v) (ha : VR ρ a a') (hb : VR ρ b b') :
    ∃ v', ((if mx then Builtin.max2 a' b' else Builtin.min2 a' b') : Sem Value).run P w = .ok v' w ∧ VR ρ v v' := by
  unfold amin2 at hf
  split at hf
  · cases ha; cases hb; cases hf
    cases mx
    · exact ⟨_, by simp [Builtin.min2], .int _ _⟩
    · exact ⟨_, by simp [Builtin.max2], .int _ _⟩
  · cases hf

theorem amin_fold_sim {mx : Bool} : ∀ (l l' : List Value) (x x' v : Value), l.foldlM (amin2 mx) x = some v → LR ρ l l' → VR ρ x x' →
    ∃ v', (l'.foldlM (fun a b => if mx then Builtin.max2 a b else Builtin.min2 a b) x').run P w = .ok v' w ∧ VR ρ v v' := by
  intro l
  induction l with
  | nil => intro l' x x' v hf hl hx; simp at hf; subst hf; rw [hl.nil_left]; exact ⟨x', by simp, hx⟩
  | cons y l ih =>
    intro l' x x' v hf hl hx
    obtain ⟨y', l', rfl, hv, hs⟩ := hl.uncons
    simp only [List.foldlM_cons, Option.bind_eq_bind] at hf
    cases h2 : amin2 mx x y with
    | none => simp [h2] at hf
    | some z =>
      simp only [h2, Option.bind_some] at hf
      obtain ⟨z', hz, hzv⟩ := amin2_sim (P := P) (w := w) h2 hx hv
      obtain ⟨v', hv', hvv⟩ := ih l' z z' v hf hs hzv
      exact ⟨v', by simp only [List.foldlM_cons, Sem.run_bind, hz, Result.andThen_ok, hv'], hvv⟩

theorem amin_sim {mx : Bool} {l l' : List Value} {v : Value} {ts : Array TypeId} {ty : TypeId} (hf : amin mx l = some v) (hl : LR ρ l l') :
    ∃ v', ((if mx then Builtin.max_ ts ty l'.toArray else Builtin.min_ ts ty l'.toArray) : Sem Value).run P w = .ok v' w ∧ VR ρ v v' := by
  cases l with
  | nil => simp [amin] at hf
  | cons x l =>
    obtain ⟨x', l', rfl, hv, hs⟩ := hl.uncons
    rw [amin_eq] at hf
    obtain ⟨v', h1, h2⟩ := amin_fold_sim (P := P) (w := w) l l' x x' v hf hs hv
    refine ⟨v', ?_, h2⟩
    cases mx
    · simpa [Builtin.min_] using h1
    · simpa [Builtin.max_] using h1

/-! All quiet operations. -/

theorem LR.map_ops {xs : List Operand} {ev ev' : Operand → Value} (H : ∀ x ∈ xs, VR ρ (ev x) (ev' x)) : LR ρ (xs.map ev) (xs.map ev') := by
  induction xs with
  | nil => exact LR.nil ρ
  | cons x xs ih => exact LR.cons (H x (by simp)) (ih fun y hy => H y (by simp [hy]))

theorem PR.map_ops {xs : List (Nat × Operand)} {ev ev' : Operand → Value} (H : ∀ x ∈ xs, VR ρ (ev x.2) (ev' x.2)) :
    PR ρ (xs.map fun p => (p.1, ev p.2)) (xs.map fun p => (p.1, ev' p.2)) := by
  refine ⟨by simp [Function.comp_def], ?_⟩
  simp only [List.map_map, Function.comp_def]
  induction xs with
  | nil => exact LR.nil ρ
  | cons x xs ih => exact LR.cons (H x (by simp)) (ih fun y hy => H y (by simp [hy]))

theorem apure_sim (H : HR P ρ w0 h w) {o : Oper} {ev ev' : Operand → Value} {v : Value} (hf : apure P ev h o = some v)
    (hx : ∀ x ∈ o.op.operands.toList, VR ρ (ev x) (ev' x)) : ∃ v', (execOp ev' o).run P w = .ok (.value v') w ∧ VR ρ v v' := by
  obtain ⟨dst, op, type, pos, after, guard⟩ := o
  unfold apure at hf
  simp only at hf hx
  split at hf
  · rename_i x; cases hf; exact ⟨ev' x, by simp [execOp], hx x (by simp [Op.operands])⟩
  · rename_i x; cases hf; exact ⟨ev' x, by simp [execOp], hx x (by simp [Op.operands])⟩
  · rename_i c a b
    have h1 := hx c (by simp [Op.operands]); have h2 := hx a (by simp [Op.operands]); have h3 := hx b (by simp [Op.operands])
    split at hf
    · rename_i t ht
      rw [ht] at h1
      cases hf
      generalize hc : ev' c = c' at h1
      cases h1
      exact ⟨if t then ev' a else ev' b, by simp [execOp, hc, asBool], by cases t <;> simp [h2, h3]⟩
    · cases hf
  · rename_i t parts
    have hp : PR ρ (parts.toList.map fun p => (p.1, ev p.2)) (parts.map fun (i, x) => (i, ev' x)).toList := by
      simp only [Array.toList_map]
      exact PR.map_ops fun x hx' => hx x.2 (by simp [Op.operands]; exact ⟨x.1, by simpa using hx'⟩)
    obtain ⟨v', h1, h2⟩ := abuild_sim (w := w) hf hp
    exact ⟨v', by simp [execOp, h1], h2⟩
  · rename_i t a
    obtain ⟨v', h1, h2⟩ := aload_sim H hf (hx a (by simp [Op.operands]))
    exact ⟨v', by simp [execOp, h1], h2⟩
  · rename_i x
    have h1 := hx x (by simp [Op.operands])
    split at hf
    · rename_i a ha
      cases hf
      rw [ha] at h1
      generalize hc : ev' x = x' at h1
      cases h1 with
      | ptr i hp => exact ⟨_, by simp [execOp, hc], .ptr i hp⟩
    · cases hf
  · rename_i op t x y yt
    obtain ⟨v', h1, h2⟩ := abinOp_sim (P := P) (w := w) (ox := x) (oy := y) hf (hx x (by simp [Op.operands])) (hx y (by simp [Op.operands]))
    refine ⟨v', ?_, h2⟩
    simp only [Sem.run_bind] at h1
    cases hr : (eqGuard op t x y (ev' x) (ev' y)).run P w with
    | ok u w1 => rw [hr] at h1; simp at h1; simp [execOp, hr, h1]
    | halt x w1 => rw [hr] at h1; simp at h1
  · rename_i op t x
    obtain ⟨v', h1, h2⟩ := aunOp_sim (P := P) (w := w) hf (hx x (by simp [Op.operands]))
    exact ⟨v', by simp [execOp, h1], h2⟩
  · rename_i s d x
    have h1 := hx x (by simp [Op.operands])
    split at hf
    · rename_i ds k k' n hs hd he
      cases hf
      rw [he] at h1
      exact ⟨_, by simp [execOp, convert, run_underlying hs, run_underlying hd, h1.int_inv, Conv.intToInt], .int _ _⟩
    · rename_i ds s' hs hd he
      cases hf
      rw [he] at h1
      generalize hc : ev' x = x' at h1
      cases h1
      exact ⟨_, by simp [execOp, convert, run_underlying hs, run_underlying hd, hc], .string _⟩
    · cases hf
  · rename_i t x lo hi mx
    have hm : ∀ a, (lo = some a ∨ hi = some a ∨ mx = some a) → VR ρ (ev a) (ev' a) := fun a ha => hx a (by
      simp [Op.operands]
      rcases ha with rfl | rfl | rfl <;> simp)
    obtain ⟨v', h1, h2⟩ := aslice_sim H hf (hx x (by simp [Op.operands])) (OpR.of_map fun a ha => hm a (.inl ha)) (OpR.of_map fun a ha => hm a (.inr (.inl ha))) (OpR.of_map fun a ha => hm a (.inr (.inr ha)))
    exact ⟨v', by simp [execOp, h1], h2⟩
  · rename_i s x f
    obtain ⟨v', h1, h2⟩ := afieldAddr_sim (w := w) hf (hx x (by simp [Op.operands]))
    exact ⟨v', by simp [execOp, h1], h2⟩
  · rename_i t x f
    obtain ⟨v', h1, h2⟩ := afield_sim (w := w) hf (hx x (by simp [Op.operands]))
    exact ⟨v', by simp [execOp, h1], h2⟩
  · rename_i t x i
    obtain ⟨v', h1, h2⟩ := aindexAddr_sim (w := w) hf (hx x (by simp [Op.operands])) (hx i (by simp [Op.operands]))
    exact ⟨v', by simp [execOp, h1], h2⟩
  · rename_i t x i
    obtain ⟨v', h1, h2⟩ := aindex_sim (w := w) hf (hx x (by simp [Op.operands])) (hx i (by simp [Op.operands]))
    exact ⟨v', by simp [execOp, h1], h2⟩
  · rename_i t i
    have h1 := hx t (by simp [Op.operands])
    split at hf
    · rename_i vs ht
      rw [ht] at h1
      obtain ⟨ys, hy, hl⟩ := h1.tuple_inv
      obtain ⟨y, hy', hv⟩ := hl.get (i := i) (x := v) (by simpa using hf)
      exact ⟨y, by simp at hy'; simp [execOp, hy, Instr.extract, hy'], hv⟩
    · cases hf
  · rename_i fn first captured
    split at hf
    · rename_i f
      cases hf
      have h1 : ∀ a ∈ first.toList, VR ρ (ev a) (ev' a) := fun a ha => hx a (by simp [Op.operands]; exact .inl (by simpa using ha))
      have h2 : ∀ a ∈ captured.toList, VR ρ (ev a) (ev' a) := fun a ha => hx a (by simp [Op.operands]; exact .inr (by simpa using ha))
      refine ⟨.func (.func f) (first.map ev') (captured.map ev'), by simp [execOp, Instr.makeFunc], .func _ _ _ _ _ _ (.func f) (by simp) ?_ (by simp) ?_⟩
      · intro i x y hx' hy'
        exact (LR.map_ops h1).2 i x y (by simpa using hx') (by simpa using hy')
      · intro i x y hx' hy'
        exact (LR.map_ops h2).2 i x y (by simpa using hx') (by simpa using hy')
    · cases hf
  · rename_i b args argTypes
    have hargs : LR ρ (args.toList.map ev) (args.toList.map ev') := LR.map_ops fun a ha => hx a (by simp [Op.operands, Call.operands]; simpa using ha)
    have hmap : (args.map ev').toList = args.toList.map ev' := by simp
    split at hf
    · rename_i x hax
      simp only [Option.bind_eq_bind] at hf
      cases ht : argTypes[0]? with
      | none => simp [ht] at hf
      | some t =>
        simp only [ht, Option.bind_some] at hf
        have ha : args = #[x] := by rw [← Array.toArray_toList (xs := args), hax]
        subst ha
        have h1 := hx x (by simp [Op.operands, Call.operands])
        obtain ⟨v', h2, h3⟩ := alen_sim (P := P) (w := w) (ty := type) hf h1
        refine ⟨v', ?_, h3⟩
        have : (Builtin.len_ argTypes type #[ev' x]).run P w = .ok v' w := by
          rw [← h2]; simp [Builtin.len_, ht]
        simp [execOp, resolve, invoke, builtin, this]
    · rename_i x hax
      simp only [Option.bind_eq_bind] at hf
      cases ht : argTypes[0]? with
      | none => simp [ht] at hf
      | some t =>
        simp only [ht, Option.bind_some] at hf
        have ha : args = #[x] := by rw [← Array.toArray_toList (xs := args), hax]
        subst ha
        have h1 := hx x (by simp [Op.operands, Call.operands])
        obtain ⟨v', h2, h3⟩ := acap_sim (P := P) (w := w) (ty := type) hf h1
        refine ⟨v', ?_, h3⟩
        have : (Builtin.cap_ argTypes type #[ev' x]).run P w = .ok v' w := by
          rw [← h2]; simp [Builtin.cap_, ht]
        simp [execOp, resolve, invoke, builtin, this]
    · obtain ⟨v', h2, h3⟩ := amin_sim (P := P) (w := w) (ts := argTypes) (ty := type) hf hargs
      refine ⟨v', ?_, h3⟩
      simp only [Bool.false_eq_true, if_false] at h2
      rw [← hmap, Array.toArray_toList] at h2
      simp [execOp, resolve, invoke, builtin, h2]
    · obtain ⟨v', h2, h3⟩ := amin_sim (P := P) (w := w) (ts := argTypes) (ty := type) hf hargs
      refine ⟨v', ?_, h3⟩
      simp only [if_true] at h2
      rw [← hmap, Array.toArray_toList] at h2
      simp [execOp, resolve, invoke, builtin, h2]
    · cases hf
  · cases hf

end Go.Am

/-
  The abstract machine: operations that make or write memory.
-/
namespace Go.Am
open Go Go.RowKit

variable {P : Program} {ρ : Ren} {w0 w : World} {h : AHeap}

theorem HR.congr {h' : AHeap} (H : HR P ρ w0 h w) (hn : h'.n = h.n) (hg : ∀ b, h'.get b = h.get b) : HR P ρ w0 h' w where
  len := by rw [hn]; exact H.len
  gone := fun b hb => by rw [hg]; exact H.gone b (by rw [← hn]; exact hb)
  obj := fun b p hp => by rw [hg]; exact H.obj b p hp
  inj := fun b c p q hbc hp hq hb hc => H.inj b c p q hbc hp hq (by rw [← hg]; exact hb) (by rw [← hg]; exact hc)
  below := H.below
  glob := H.glob

theorem HR.last (H : HR P ρ w0 h w) (p : Pl) : (ρ ++ [p])[h.n]? = some p := by
  rw [List.getElem?_append_right (by rw [H.len]; exact Nat.le_refl _), H.len]; simp

/-- A new row. -/
theorem HR.newRow (H : HR P ρ w0 h w) {c : List Value} {cc : Array Value} (el : TypeId) (e : Nat) (hl : c.length ≤ cc.size)
    (hv : ∀ (i : Nat) (x : Value), c[i]? = some x → ∃ y, cc[i]? = some y ∧ VR ρ x y) (fz : Nat × Nat) (hfz : ∀ i, i < cc.size → (decide (fz.1 ≤ i) && decide (i < fz.2)) = false) :
    HR P (ρ ++ [⟨w.heap.size, 0, e, cc.size⟩]) w0 (h.push (.cells c e)) (w.alloc (.cells cc el fz)) := by
  refine H.alloc (.cells cc el fz) (.cells c e) _ rfl ⟨H.below.size, rfl, cc, el, fz, ?_, rfl, by simpa using hl, hfz, fun i x hx => ?_⟩
  · show (w.heap.push _)[w.heap.size]? = _
    simp
  · obtain ⟨y, hy, hvr⟩ := hv i x hx
    exact ⟨y, by simpa using hy, hvr.mono (Sub.append _ _)⟩

theorem LR.pre {xs ys : List Value} (hl : LR ρ xs ys) (cc : Array Value) (hc : cc.toList.take ys.length = ys) :
    xs.length ≤ cc.size ∧ ∀ (i : Nat) (x : Value), xs[i]? = some x → ∃ y, cc[i]? = some y ∧ VR ρ x y := by
  have h1 : ys.length ≤ cc.size := by
    have := congrArg List.length hc
    simp at this
    omega
  refine ⟨by rw [hl.1]; exact h1, fun i x hx => ?_⟩
  obtain ⟨y, hy, hv⟩ := hl.get hx
  refine ⟨y, ?_, hv⟩
  rw [← hc] at hy
  have hi : i < ys.length := by rw [← hl.1]; exact (List.getElem?_eq_some_iff.1 hx).1
  rw [List.getElem?_take_of_lt hi] at hy
  simpa using hy

/-- What an operation yields. -/
def Nx (v : Value) (n : Next) : Prop := n = .value v ∨ (n = .skip ∧ v = undef)

/-- What becomes of the worlds. -/
def Eff (P : Program) (ρ : Ren) (w0 : World) (v : Value) (h' : AHeap) (r : Result Value) : Prop :=
  ∃ ρ' v' w', r = .ok v' w' ∧ Sub ρ ρ' ∧ HR P ρ' w0 h' w' ∧ VR ρ' v v'

theorem anew_sim (H : HR P ρ w0 h w) {c : List Value} {cc : Array Value} (el : TypeId) {v : Value} {h' : AHeap} {e : Nat} (hf : anew h c e = some (v, h')) (hl : LR ρ c cc.toList) :
    Eff P ρ w0 v h' (.ok (.pointer (some ⟨w.heap.size, 0, none⟩)) (w.alloc (.cells cc el))) := by
  cases hf
  refine ⟨_, _, _, rfl, Sub.append _ _, H.newRow el e (by have := hl.1; simpa using Nat.le_of_eq this) (fun i x hx => by obtain ⟨y, hy, hv⟩ := hl.get hx; exact ⟨y, by simpa using hy, hv⟩) (0, 0) (fun i _ => by simp), ?_⟩
  have := VR.ptr (ρ := ρ ++ [⟨w.heap.size, 0, e, cc.size⟩]) 0 (H.last _)
  simpa using this

theorem LR.made {z : Array Value} (hz : z.toList.all plainV = true) (h0 : z.size ≠ 0) (n : Nat) : LR ρ (madeCells z n).toList (madeCells z n).toList := by
  apply LR.plain
  rw [List.all_eq_true]
  intro x hx
  simp only [madeCells, Array.toList_map, List.mem_map] at hx
  obtain ⟨i, _, rfl⟩ := hx
  rw [List.all_eq_true] at hz
  apply hz
  have hlt : i % z.size < z.size := Nat.mod_lt _ (by omega)
  rw [getElem!_pos z (i % z.size) hlt]
  exact Array.getElem_mem_toList hlt

theorem azero_plain {t : TypeId} {z : Value} (hz : azero P t = some z) : z.cells.toList.all plainV = true := by
  unfold azero at hz
  cases he : (P.info? t).bind (·.zero) with
  | none => simp [he] at hz
  | some z' =>
    cases z' <;> simp only [he] at hz <;> first
      | (cases hz; done)
      | (split at hz
         · cases hz; assumption
         · cases hz)

theorem amakeSlice_sim (H : HR P ρ w0 h w) {t : TypeId} {a a' b b' v : Value} {h' : AHeap} (hf : amakeSlice P h t a b = some (v, h')) (ha : VR ρ a a') (hb : VR ρ b b') :
    Eff P ρ w0 v h' ((Instr.makeSlice t a' b').run P w) := by
  unfold amakeSlice at hf
  split at hf
  · rename_i elem kl l kc c hu
    rw [ha.int_inv, hb.int_inv]
    split at hf
    · rename_i i z hi hz
      split at hf
      · cases hf
      · rename_i hc
        simp only [Bool.or_eq_true, decide_eq_true_eq, not_or] at hc
        obtain ⟨⟨⟨⟨h1, h2⟩, h3⟩, h4⟩, h5⟩ := hc
        cases hf
        have hz1 := (azero_sim (ρ := ρ) hz).1
        simp only [hi, Option.bind_some] at hz1
        have hby : (i.bytes : Int) * c ≤ 140737488355328 := by
          have e : (i.bytes : Int) * c = ((i.bytes * c.toNat : Nat) : Int) := by rw [Int.natCast_mul, Int.toNat_of_nonneg (by omega)]
          rw [e]; omega
        have hr := run_make (P := P) w t elem i z hu hi hz1 kl kc l c (by omega) (by omega) (by omega) (by omega)
        refine ⟨_, _, _, hr, Sub.append _ _, H.newRow elem 0 (cc := madeCells z.cells (c.toNat * i.size)) (by simp) ?_ (0, 0) (fun i _ => by simp), ?_⟩
        · intro j x hx
          obtain ⟨y, hy, hv⟩ := (LR.made (ρ := ρ) (azero_plain hz) h5 (c.toNat * i.size)).get hx
          exact ⟨y, by simpa using hy, hv⟩
        · have := VR.slice (ρ := ρ ++ [⟨w.heap.size, 0, 0, (madeCells z.cells (c.toNat * i.size)).size⟩]) 0 l.toNat c.toNat (H.last _) (by unfold big; omega)
          simpa using this
    · cases hf
  · cases hf

theorem abuildSlice_sim (H : HR P ρ w0 h w) {t : TypeId} {len : Nat} {xs : Array (Nat × Value)} {l : List (Nat × Value)} {v : Value} {h' : AHeap}
    (hf : abuildSlice P h t len l = some (v, h')) (hx : PR ρ l xs.toList) : Eff P ρ w0 v h' ((Instr.buildSlice t len xs).run P w) := by
  unfold abuildSlice at hf
  split at hf
  · rename_i elem hu
    split at hf
    · rename_i size z hs hz
      have h2 := run_sizeOf (w := w) hs
      have hz1 := run_zeroValue (P := P) (w := w) (azero_sim (ρ := ρ) hz).1
      split at hf
      · rename_i h0
        split at hf
        · cases hf
          have hxs : xs = #[] := by
            have := hx.1
            simp at this
            exact this
          subst hxs
          have hr : (Instr.buildSlice t len #[]).run P w = .ok (.slice (some ⟨w.heap.size, 0, none⟩) len len) (w.alloc (.cells #[] elem)) := by
            simp [Instr.buildSlice, run_underlying hu, h2, h0.1, Instr.fill, newRow, Array.range_zero']
          refine ⟨_, _, _, hr, Sub.append _ _, H.newRow elem 0 (cc := #[]) (by simp) (fun i x hx => by simp at hx) (0, 0) (fun i _ => by simp), ?_⟩
          have := VR.slice (ρ := ρ ++ [⟨w.heap.size, 0, 0, (#[] : Array Value).size⟩]) 0 len len (H.last _) h0.2
          simpa using this
        · cases hf
      · rename_i h0
        split at hf
        · cases hf
        · rename_i hc
          simp only [Bool.or_eq_true, decide_eq_true_eq, not_or] at hc
          obtain ⟨⟨h3, h4⟩, h5⟩ := hc
          have h00 : ¬ len * size = 0 := fun e => h0 ⟨e, by omega⟩
          split at hf
          · rename_i cells hfl
            cases hf
            obtain ⟨cells', hf', hl⟩ := fill_sim (ρ := ρ) _ _ xs.toList _ _ _ hx (LR.made (ρ := ρ) (azero_plain hz) h5 (len * size)) hfl
            have hr : (Instr.buildSlice t len xs).run P w = .ok (.slice (some ⟨w.heap.size, 0, none⟩) len len) (w.alloc (.cells cells' elem)) := by
              have h16 : ¬ 16777216 < len * size := by omega
              unfold madeCells at hf'
              simp [Instr.buildSlice, run_underlying hu, h2, hz1, h00, h16, hf', newRow]
            refine ⟨_, _, _, hr, Sub.append _ _, H.newRow elem 0 (cc := cells') (by have := hl.1; simpa using Nat.le_of_eq this) (fun i x hx => by obtain ⟨y, hy, hv⟩ := hl.get hx; exact ⟨y, by simpa using hy, hv⟩) (0, 0) (fun i _ => by simp), ?_⟩
            have := VR.slice (ρ := ρ ++ [⟨w.heap.size, 0, 0, cells'.size⟩]) 0 len len (H.last _) (by omega)
            simpa using this
          · cases hf
    · cases hf
  · cases hf

/-! Stores. -/

theorem isCell_sim {x y : Value} (hv : VR ρ x y) (hc : isCell x = true) : y.oneCell' = true := by
  cases hv <;> first | rfl | (simp [isCell] at hc)

theorem heap_setCell_same (w : World) (b i : Nat) (v : Value) {cc : Array Value} {el : TypeId} {fz : Nat × Nat} (hb : w.heap[b]? = some (.cells cc el fz)) :
    (w.setCell ⟨b, i, none⟩ v).heap[b]? = some (.cells (cc.setIfInBounds i v) el fz) := by
  simp [World.setCell, Array.getElem?_modify, hb]

theorem Below.set (H : HR P ρ w0 h w) {b i : Nat} (hb : w0.heap.size ≤ b) (v : Value) : Below w0.heap.size w0 (w.setCell ⟨b, i, none⟩ v) := H.below.setCell hb v

theorem store_sim (H : HR P ρ w0 h w) {b i e : Nat} {c : List Value} {p : Pl} (hp : ρ[b]? = some p) (hg : h.get b = .cells c e) (hi : i < c.length) {x y : Value} (hv : VR ρ x y) (hc : isCell x = true) :
    ∃ w', (store ⟨p.b, p.s + i, none⟩ y).run P w = .ok () w' ∧ HR P ρ w0 (h.set b (.cells (c.set i x) e)) w' := by
  obtain ⟨h1, h2⟩ := H.obj b p hp
  rw [hg] at h2
  obtain ⟨hb, he, cc, el, fz, k1, k2, k3, k4, k5⟩ := h2
  have hlt : p.s + i < cc.size := by omega
  have hcell : w.cell? ⟨p.b, p.s + i, none⟩ = some cc[p.s + i] := by simp [World.cell?, k1, Array.getElem?_eq_getElem hlt]
  have hfz : w.frozen? ⟨p.b, p.s + i, none⟩ = false := by
    simp only [World.frozen?, k1]
    exact k4 (p.s + i) (by omega)
  refine ⟨w.setCell ⟨p.b, p.s + i, none⟩ y, by rw [run_store P w _ y .plain (isCell_sim hv hc), hcell]; simp [hfz], ?_⟩
  refine H.change hp (by rw [hg]; rfl) _ (Below.set H hb y) (by simp [World.setCell]) (fun k hk _ => Below.heap_setCell _ _ _ _ hk) ?_
  refine ⟨hb, he, cc.setIfInBounds (p.s + i) y, el, fz, heap_setCell_same w _ _ _ k1, by simpa using k2, by simpa using k3, k4, fun j z hz => ?_⟩
  by_cases hij : i = j
  · subst hij
    rw [List.getElem?_set_self hi] at hz
    cases hz
    exact ⟨y, by simp [hlt], hv⟩
  · rw [List.getElem?_set_ne hij] at hz
    obtain ⟨z', hz', hvz⟩ := k5 j z hz
    exact ⟨z', by rw [Array.getElem?_setIfInBounds_ne (by omega)]; exact hz', hvz⟩

theorem setAll_length : ∀ (vs c : List Value) (i : Nat), (setAll c i vs).length = c.length
  | [], c, i => rfl
  | v :: vs, c, i => by simp only [setAll]; rw [setAll_length vs]; simp

theorem stores_sim (b e k : Nat) (p : Pl) (hp : ρ[b]? = some p) : ∀ (xs ys : List Value) (i : Nat) (c : List Value) (h : AHeap) (w : World), HR P ρ w0 h w → h.get b = .cells c e → k + i + xs.length ≤ c.length →
    LR ρ xs ys → xs.all isCell = true →
    ∃ w', (storeCells ⟨p.b, p.s + k, none⟩ ys i).run P w = .ok () w' ∧ HR P ρ w0 (h.set b (.cells (setAll c (k + i) xs) e)) w' := by
  intro xs
  induction xs with
  | nil =>
    intro ys i c h w H hg hlen hl _
    rw [hl.nil_left]
    refine ⟨w, rfl, H.congr rfl fun d => ?_⟩
    have := H.lt hp
    rw [AHeap.get_set _ _ _ _]
    split
    · rename_i hd; rw [hd, hg]; rfl
    · rfl
  | cons x xs ih =>
    intro ys i c h w H hg hlen hl hc
    obtain ⟨y, ys, rfl, hv, hs⟩ := hl.uncons
    simp only [List.all_cons, Bool.and_eq_true] at hc
    simp only [List.length_cons] at hlen
    obtain ⟨w1, hr1, H1⟩ := store_sim H hp hg (i := k + i) (by omega) hv hc.1
    have hb := H.lt hp
    have hg1 : (h.set b (.cells (c.set (k + i) x) e)).get b = .cells (c.set (k + i) x) e := by
      rw [AHeap.get_set _ _ _ _, if_pos rfl]
    obtain ⟨w2, hr2, H2⟩ := ih ys (i + 1) (c.set (k + i) x) _ w1 H1 hg1 (by simp; omega) hs hc.2
    refine ⟨w2, ?_, H2.congr rfl fun d => ?_⟩
    · simp only [storeCells, Sem.run_bind, Addr.add_none, Nat.add_assoc]
      rw [hr1]
      exact hr2
    · rw [AHeap.get_set _ _ _ _, AHeap.get_set _ _ _ _, AHeap.get_set _ _ _ _]
      split
      · rfl
      · rfl

theorem awriteN_sim (H : HR P ρ w0 h w) {b i : Nat} {p : Pl} {xs ys : List Value} {h' : AHeap} (hf : awriteN h b i xs = some h') (hp : ρ[b]? = some p) (hl : LR ρ xs ys) :
    ∃ w', (storeCells ⟨p.b, p.s + i, none⟩ ys).run P w = .ok () w' ∧ HR P ρ w0 h' w' := by
  unfold awriteN at hf
  split at hf
  · rename_i c e hg
    split at hf
    · rename_i hc
      simp only [Bool.and_eq_true, decide_eq_true_eq] at hc
      cases hf
      obtain ⟨w', h1, h2⟩ := stores_sim b e i p hp xs ys 0 c h w H hg (by omega) hl hc.2
      exact ⟨w', h1, by simpa using h2⟩
    · cases hf
  · cases hf

theorem astore_sim (H : HR P ρ w0 h w) {t : TypeId} {a a' x x' : Value} {h' : AHeap} (hf : astore P h t a x = some h') (ha : VR ρ a a') (hx : VR ρ x x') :
    ∃ w', (Instr.storeAt t a' x').run P w = .ok () w' ∧ HR P ρ w0 h' w' := by
  unfold astore at hf
  split at hf
  · rename_i b i
    cases ha with
    | ptr i hp =>
      rename_i p
      split at hf
      · rename_i hs
        have hs' := eq_of_beq hs
        have h2 := run_sizeOf (w := w) hs'
        have hl := hx.cells
        have hsz : x.cells.size = x'.cells.size := by simpa using hl.1
        obtain ⟨w', h3, h4⟩ := awriteN_sim H hf hp hl
        refine ⟨w', ?_, h4⟩
        simp [Instr.storeAt, Instr.sureAddr, storeVar, h2, hsz, h3]
      · cases hf
  · cases hf

end Go.Am

/-
  The abstract machine: conversions, append and copy; all operations together.
-/
namespace Go.Am
open Go Go.RowKit

variable {P : Program} {ρ : Ren} {w0 w : World} {h : AHeap}

theorem lenOf_sim {x x' : Value} {n : Nat} (hf : lenOf x = some n) (hx : VR ρ x x') : (Builtin.lenOf x').run P w = .ok n w := by
  cases hx <;> simp [lenOf] at hf <;> subst hf <;> simp [Builtin.lenOf]

theorem LR.bytes (l : List UInt8) : LR ρ (l.map fun b => Value.int .u8 b.toNat) (l.map fun b => Value.int .u8 b.toNat) := by
  apply LR.plain
  simp [plainV]

theorem firstOf_sim (H : HR P ρ w0 h w) {size n : Nat} {x x' : Value} {l : List Value} (hf : firstOf h size n x = some l) (hx : VR ρ x x') (hn : ∀ m, lenOf x = some m → n ≤ m) :
    ∃ l', (Builtin.firstCells size n x').run P w = .ok l'.toArray w ∧ LR ρ l l' := by
  cases hx with
  | slice i m c hp hc =>
    simp only [firstOf] at hf
    obtain ⟨l', h1, h2, h3⟩ := areadN_sim H hf hp
    have h4 := run_loadCells_of (P := P) _ _ l' h3
    have h5 : l'.length = n * size := by rw [← h1.1]; exact h2
    rw [h5] at h4
    exact ⟨l', by simp [Builtin.firstCells, h4], h1⟩
  | opn i m c hp hc hz =>
    simp only [firstOf] at hf
    obtain ⟨l', h1, h2, h3⟩ := areadN_sim H hf hp
    have h4 := run_loadCells_of (P := P) _ _ l' h3
    have h5 : l'.length = n * size := by rw [← h1.1]; exact h2
    rw [h5] at h4
    exact ⟨l', by simp [Builtin.firstCells, h4], h1⟩
  | snil m c hc =>
    simp only [firstOf] at hf
    cases hf
    exact ⟨[], by simp [Builtin.firstCells], LR.nil ρ⟩
  | void a c k hk =>
    simp only [firstOf] at hf
    cases hf
    have h0 : n = 0 := by have := hn 0 rfl; omega
    subst h0
    refine ⟨[], ?_, LR.nil ρ⟩
    have := run_loadCells_list (P := P) (w := w) a [] (fun j v hv => by simp at hv)
    simpa [Builtin.firstCells] using this
  | string s =>
    simp only [firstOf] at hf
    cases hf
    refine ⟨((s.extract 0 n).data.map fun b => .int .u8 b.toNat).toList, by simp only [Builtin.firstCells, Array.toArray_toList]; rfl, ?_⟩
    simp only [Array.toList_map]
    exact LR.bytes _
  | _ => simp [firstOf] at hf

theorem firstOf_length {size n : Nat} {b o m c : Nat} {l : List Value} (H : HR P ρ w0 h w) {p : Pl} (hp : ρ[b]? = some p) (hf : firstOf h size n (.slice (some ⟨b, o, none⟩) m c) = some l) : l.length = n * size := by
  simp only [firstOf] at hf
  obtain ⟨l', h1, h2, h3⟩ := areadN_sim H hf hp
  exact h2

theorem awriteAt_sim (H : HR P ρ w0 h w) {s s' : Value} {base : Option Addr} {n c k : Nat} (hs : s = .slice base n c) (hv : VR ρ s s') {xs ys : List Value} {h' : AHeap} (hf : awriteAt h base k xs = some h') (hl : LR ρ xs ys) :
    ∃ base' n' c' w', s' = .slice base' n' c' ∧ (match base' with | some a => storeCells (a.add k) ys | none => (pure () : Sem Unit)).run P w = .ok () w' ∧ HR P ρ w0 h' w' := by
  subst hs
  cases hv with
  | snil n c hc =>
    unfold awriteAt at hf
    cases xs with
    | nil => cases hf; exact ⟨_, _, _, w, rfl, rfl, H⟩
    | cons x xs => simp at hf
  | void a c k hk =>
    unfold awriteAt at hf
    cases xs with
    | nil =>
      cases hf
      rw [hl.nil_left]
      exact ⟨_, _, _, w, rfl, rfl, H⟩
    | cons x xs => simp at hf
  | slice i n c hp hc =>
    rename_i b p
    refine ⟨some ⟨p.b, p.s + i, none⟩, n, c, ?_⟩
    cases xs with
    | nil =>
      simp [awriteAt] at hf
      subst hf
      rw [hl.nil_left]
      exact ⟨w, rfl, rfl, H⟩
    | cons x xs =>
      simp only [awriteAt] at hf
      obtain ⟨w', h1, h2⟩ := awriteN_sim H hf hp hl
      exact ⟨w', rfl, by simpa [Addr.add_none, Nat.add_assoc] using h1, h2⟩
  | opn i n c hp hc hz =>
    rename_i b p
    refine ⟨some ⟨p.b, p.s + i, none⟩, n, c, ?_⟩
    cases xs with
    | nil =>
      simp [awriteAt] at hf
      subst hf
      rw [hl.nil_left]
      exact ⟨w, rfl, rfl, H⟩
    | cons x xs =>
      simp only [awriteAt] at hf
      obtain ⟨w', h1, h2⟩ := awriteN_sim H hf hp hl
      exact ⟨w', rfl, by simpa [Addr.add_none, Nat.add_assoc] using h1, h2⟩

theorem acopy_sim (H : HR P ρ w0 h w) {ts : Array TypeId} {ty : TypeId} {d d' x x' v : Value} {h' : AHeap} (hf : acopy P h ts d x = some (v, h')) (hd : VR ρ d d') (hx : VR ρ x x') :
    Eff P ρ w0 v h' ((Builtin.copy_ ts ty #[d', x']).run P w) := by
  unfold acopy at hf
  split at hf
  · rename_i dt ht
    split at hf
    · rename_i elem base dLen dCap hu
      split at hf
      · rename_i size m hs hm
        split at hf
        · rename_i new hnew
          simp only [Option.map_eq_some_iff] at hf
          obtain ⟨h2, hw, he⟩ := hf
          cases he
          obtain ⟨new', hr1, hl⟩ := firstOf_sim H hnew hx (fun q hq => by rw [hm] at hq; cases hq; exact Nat.min_le_left _ _)
          obtain ⟨base', n', c', w', hd', hst, H'⟩ := awriteAt_sim H rfl hd hw hl
          have hn : n' = dLen := by subst hd'; cases hd <;> rfl
          subst hn
          have h3 := run_sizeOf (w := w) hs
          have h4 := lenOf_sim (P := P) (w := w) hm hx
          refine ⟨ρ, _, w', ?_, Sub.refl ρ, H', .int _ _⟩
          subst hd'
          cases base' with
          | none =>
            simp at hst
            subst hst
            simp [Builtin.copy_, ht, run_underlying hu, h4, h3, hr1, goInt]
          | some a =>
            have e0 : a.add 0 = a := by simp [Addr.add]
            simp only [e0] at hst
            simp [Builtin.copy_, ht, run_underlying hu, h4, h3, hr1, goInt, hst]
        · cases hf
      · cases hf
    · cases hf
  · cases hf

theorem run_lenZeros {xt : TypeId} {xd : TypeDesc} (hu : P.underlying xt = some xd) (hi : isIntT xd = false) (w : World) :
    ((do pure ((← underlying xt) matches .int _)) : Sem Bool).run P w = .ok false w := by
  cases xd <;> simp [isIntT] at hi <;> simp [run_underlying hu]

/-- The place and the value of a slice that was made by an append. -/
theorem open_new {p : Pl} {b n c : Nat} (hp : ρ[b]? = some p) (hn : n ≤ c) (hz : p.s + c * p.e ≤ p.z) : VR ρ (.slice (some ⟨b, 0, none⟩) n big) (.slice (some ⟨p.b, p.s, none⟩) n c) := by
  have := VR.opn (ρ := ρ) 0 n c hp hn (by simpa using hz)
  simpa using this

theorem take_three {a b c : List Value} {n : Nat} (h : n = a.length + b.length) : (a ++ b ++ c).take n = a ++ b := by
  subst h
  rw [← List.length_append, List.take_left]

theorem HR.drew' (H : HR P ρ w0 h w) : HR P ρ w0 h w.drew := H.drew (w.drawn + 1)

theorem intT_no {xd : TypeDesc} (h : isIntT xd = false) : xd = .string ∨ ∃ e, xd = .slice e := by
  cases xd <;> first | exact .inl rfl | exact .inr ⟨_, rfl⟩ | (simp [isIntT] at h)

/-- The model's append, where it grows. -/
theorem run_append_grows {st xt elem ty : TypeId} {ts : Array TypeId} {xd : TypeDesc} {i : TypeInfo} {z : Value} (h0 : ts[0]? = some st) (h1 : ts[1]? = some xt)
    (hu : P.underlying st = some (.slice elem)) (hx : P.underlying xt = some xd) (hxi : isIntT xd = false) (hi : P.info? elem = some i) (hz : i.zero = some z)
    {base : Option Addr} {sLen sCap n : Nat} {x' : Value} (hn : (Builtin.lenOf x').run P w = .ok n w) (hg : sCap < sLen + n) (hb0 : i.bytes ≠ 0) (hby : (sLen + n) * i.bytes ≤ 140737488355328)
    {old new : List Value} (ho : (Builtin.firstCells i.size sLen (.slice base sLen sCap)).run P w.drew = .ok old.toArray w.drew) (hnew : (Builtin.firstCells i.size n x').run P w.drew = .ok new.toArray w.drew) :
    (Builtin.append_ ts ty #[.slice base sLen sCap, x']).run P w = .ok (.slice (some ⟨w.heap.size, 0, none⟩) (sLen + n) (grownCap w (sLen + n) sCap elem))
      (w.drew.alloc (.cells (old.toArray ++ new.toArray ++ Builtin.zeroCells z.cells (grownCap w (sLen + n) sCap elem - (sLen + n))) elem)) := by
  have h63' : ¬ (9223372036854775807 < ((sLen : Int) + (n : Int))) := by
    have : sLen + n ≤ (sLen + n) * i.bytes := Nat.le_mul_of_pos_right _ (Nat.pos_of_ne_zero hb0)
    omega
  have h48 := growslice_fits (need := sLen + n) (old := sCap) (bytes := i.bytes) hg (by omega)
  have h48' : ¬ (281474976710656 < Builtin.nextslicecap (sLen + n) sCap * i.bytes) := by omega
  have hn' : ¬ (sLen + n ≤ sCap) := by omega
  rcases intT_no hxi with rfl | ⟨e, rfl⟩ <;>
    simp [Builtin.append_, h0, h1, run_underlying hu, run_underlying hx, sizeOf, typeInfo, zeroValue, hi, hz, hn, hn', h63', h48', Question.forced, ho, hnew, newRow, grownCap] <;>
    (congr 2; apply Array.ext'; simp [List.append_assoc])

theorem run_append_stays {st xt elem ty : TypeId} {ts : Array TypeId} {xd : TypeDesc} {i : TypeInfo} (h0 : ts[0]? = some st) (h1 : ts[1]? = some xt)
    (hu : P.underlying st = some (.slice elem)) (hx : P.underlying xt = some xd) (hxi : isIntT xd = false) (hi : P.info? elem = some i)
    {base : Option Addr} {sLen sCap n : Nat} {x' : Value} (hn : (Builtin.lenOf x').run P w = .ok n w) (hg : sLen + n ≤ sCap)
    {new : List Value} {w' : World} (hnew : (Builtin.firstCells i.size n x').run P w = .ok new.toArray w)
    (hst : (match base with | some a => storeCells (a.add (sLen * i.size)) new | none => (pure () : Sem Unit)).run P w = .ok () w') :
    (Builtin.append_ ts ty #[.slice base sLen sCap, x']).run P w = .ok (.slice base (sLen + n) sCap) w' := by
  cases base with
  | none =>
    simp at hst
    subst hst
    rcases intT_no hxi with rfl | ⟨e, rfl⟩ <;>
      simp [Builtin.append_, h0, h1, run_underlying hu, run_underlying hx, sizeOf, typeInfo, hi, hn, hg, hnew]
  | some a =>
    simp only at hst
    rcases intT_no hxi with rfl | ⟨e, rfl⟩ <;>
      simp [Builtin.append_, h0, h1, run_underlying hu, run_underlying hx, sizeOf, typeInfo, hi, hn, hg, hnew, hst]

/-- Behind a growth: a new row of ours. -/
theorem grown_sim (H : HR P ρ w0 h w) {elem : TypeId} {i : TypeInfo} {z : Value} (hzs : z.cells.size = i.size) {sLen n sCap : Nat} {old new old' new' : List Value}
    (hlo : LR ρ old old') (hln : LR ρ new new') (ho : old'.length = sLen * i.size) (hnn : new'.length = n * i.size) :
    Eff P ρ w0 (.slice (some ⟨h.n, 0, none⟩) (sLen + n) big) (h.push (.cells (old ++ new) i.size)) (.ok (.slice (some ⟨w.heap.size, 0, none⟩) (sLen + n) (grownCap w (sLen + n) sCap elem))
      (w.drew.alloc (.cells (old'.toArray ++ new'.toArray ++ Builtin.zeroCells z.cells (grownCap w (sLen + n) sCap elem - (sLen + n))) elem))) := by
  have hge := grownCap_ge w (sLen + n) sCap elem
  generalize grownCap w (sLen + n) sCap elem = c at hge ⊢
  generalize hcc : old'.toArray ++ new'.toArray ++ Builtin.zeroCells z.cells (c - (sLen + n)) = cc
  have hsz : cc.size = c * i.size := by
    subst hcc
    simp only [Array.size_append, List.size_toArray, size_zeroCells, hzs, ho, hnn, ← Nat.add_mul]
    congr 1
    omega
  have htk : cc.toList.take (old' ++ new').length = old' ++ new' := by
    subst hcc
    simp only [Array.toList_append]
    exact List.take_left
  obtain ⟨h1, h2⟩ := LR.pre (hlo.append hln) cc htk
  have hH := H.drew'.newRow elem i.size h1 h2 (0, 0) (fun i _ => by simp)
  refine ⟨_, _, _, rfl, Sub.append _ _, hH, ?_⟩
  exact open_new (p := ⟨w.drew.heap.size, 0, i.size, cc.size⟩) (H.last _) hge (by simp [hsz])

/-- Stores into a row, wherever it lies. -/
theorem raw_stores (b o : Nat) (el : TypeId) (fz : Nat × Nat) : ∀ (ys : List Value) (i : Nat) (cc : Array Value) (w : World), w.heap[b]? = some (.cells cc el fz) → o + i + ys.length ≤ cc.size →
    (∀ j, j < cc.size → (decide (fz.1 ≤ j) && decide (j < fz.2)) = false) → (∀ y ∈ ys, y.oneCell' = true) →
    ∃ cc' w', (storeCells ⟨b, o, none⟩ ys i).run P w = .ok () w' ∧ w'.heap[b]? = some (.cells cc' el fz) ∧ cc'.size = cc.size ∧
      (∀ j, j < o + i → cc'[j]? = cc[j]?) ∧ (∀ j, j < ys.length → cc'[o + i + j]? = ys[j]?) ∧ (∀ k, k ≠ b → w'.heap[k]? = w.heap[k]?) ∧ w'.heap.size = w.heap.size ∧
      (∀ B (w0 : World), B ≤ b → Below B w0 w → Below B w0 w') := by
  intro ys
  induction ys with
  | nil =>
    intro i cc w h1 _ _ _
    exact ⟨cc, w, rfl, h1, rfl, fun _ _ => rfl, fun j hj => by simp at hj, fun _ _ => rfl, rfl, fun _ _ _ h => h⟩
  | cons y ys ih =>
    intro i cc w h1 h2 h3 h4
    simp only [List.length_cons] at h2
    have hlt : o + i < cc.size := by omega
    have hcell : w.cell? ⟨b, o + i, none⟩ = some cc[o + i] := by simp [World.cell?, h1, Array.getElem?_eq_getElem hlt]
    have hfz : w.frozen? ⟨b, o + i, none⟩ = false := by simp only [World.frozen?, h1]; exact h3 _ hlt
    have hst : (store ⟨b, o + i, none⟩ y).run P w = .ok () (w.setCell ⟨b, o + i, none⟩ y) := by
      rw [run_store P w _ y .plain (h4 y (by simp)), hcell]; simp [hfz]
    have hk := heap_setCell_same w b (o + i) y h1
    obtain ⟨cc', w', k1, k2, k3, k4, k5, k6, k7, k8⟩ := ih (i + 1) (cc.setIfInBounds (o + i) y) _ hk (by simp; omega) (by simpa using h3) (fun z hz => h4 z (by simp [hz]))
    refine ⟨cc', w', ?_, k2, by simpa using k3, fun j hj => ?_, fun j hj => ?_, fun k hkb => ?_, by rw [k7]; simp [World.setCell], fun B w0 hB hb => k8 B w0 hB (hb.setCell hB y)⟩
    · simp only [storeCells, Sem.run_bind, Addr.add_none]
      rw [hst]
      exact k1
    · rw [k4 j (by omega), Array.getElem?_setIfInBounds_ne (by omega)]
    · cases j with
      | zero => rw [k4 (o + i + 0) (by omega)]; simp [hlt]
      | succ j =>
        have := k5 j (by simpa using hj)
        rw [show o + i + (j + 1) = o + (i + 1) + j from by omega, this]
        rfl
    · rw [k6 k hkb]; exact Below.heap_setCell _ _ _ _ hkb

theorem LR.oneCell {xs ys : List Value} (hl : LR ρ xs ys) (hc : xs.all isCell = true) : ∀ y ∈ ys, y.oneCell' = true := by
  intro y hy
  obtain ⟨i, hi⟩ := List.getElem?_of_mem hy
  have hlt : i < xs.length := by rw [hl.1]; exact (List.getElem?_eq_some_iff.1 hi).1
  exact isCell_sim (hl.2 i xs[i] y (List.getElem?_eq_getElem hlt) hi) (List.all_eq_true.1 hc _ (List.getElem_mem hlt))

/-- An append in place, behind a row whose capacity is not known: the old row is forgotten. -/
theorem stays_sim (H : HR P ρ w0 h w) {b o size k c : Nat} {p : Pl} (hp : ρ[b]? = some p) {old new new' : List Value} (hold : areadN h b o (k * size) = some old) (he : eszOf h b = some size)
    (hln : LR ρ new new') (hcell : new.all isCell = true) {m : Nat} (hnl : new.length = m * size) (hmc : k + m ≤ c) (hz : p.s + o + c * p.e ≤ p.z) :
    ∃ w', (storeCells ⟨p.b, p.s + o + k * size, none⟩ new').run P w = .ok () w' ∧
      HR P (ρ ++ [⟨p.b, p.s + o, size, p.z⟩]) w0 ((h.set b .dead).push (.cells (old ++ new) size)) w' ∧ p.e = size := by
  unfold eszOf at he
  cases hg : h.get b with
  | cells cs e =>
    rw [hg] at he
    simp at he
    subst he
    have hb := H.lt hp

    obtain ⟨hpb, ho⟩ := H.obj b p hp
    rw [hg] at ho
    obtain ⟨hbase, hpe, cc, el, fz, k1, k2, k3, k4, k5⟩ := ho
    rw [hpe] at hz
    have hcs : areadN h b o (k * e) = some old := hold
    unfold areadN at hcs
    rw [hg] at hcs
    simp only [AObj.row, Option.bind_some] at hcs
    obtain ⟨hol, hoj⟩ := takeAt_spec hcs
    have hkm : (k + m) * e ≤ c * e := Nat.mul_le_mul_right _ hmc
    rw [Nat.add_mul] at hkm
    have hlen' : new'.length = m * e := by rw [← hln.1]; exact hnl
    obtain ⟨cc', w', j1, j2, j3, j4, j5, j6, j7, j8⟩ := raw_stores (P := P) p.b (p.s + o + k * e) el fz new' 0 cc w k1 (by omega) (fun j hj => k4 j (by omega)) (hln.oneCell hcell)
    have hK := H.kill b hb
    have hT : HR P ρ w0 (h.set b .dead) w' := by
      refine hK.turn (j8 _ _ hbase H.below) (by omega) (fun d q hq hl => j6 q.b ?_)
      rw [AHeap.get_set _ _ _ _] at hl
      split at hl
      · simp [live] at hl
      · exact H.inj d b q p ‹_› hq hp hl (by rw [hg]; rfl)
    refine ⟨w', j1, ?_, hpe⟩
    refine hT.put ⟨p.b, p.s + o, e, p.z⟩ _ (by simp only; omega) ⟨hbase, rfl, cc', el, fz, j2, by simp only; omega, ?_, by simpa using k4, fun i x hx => ?_⟩ (fun d q hq hl _ => ?_)
    · simp only [List.length_append, hol, hnl]; omega
    · simp only
      by_cases hi : i < old.length
      · rw [List.getElem?_append_left hi] at hx
        rw [hoj i (by omega)] at hx
        obtain ⟨y, hy, hv⟩ := k5 _ x hx
        refine ⟨y, ?_, hv.mono (Sub.append _ _)⟩
        rw [j4 _ (by omega), Nat.add_assoc]
        exact hy
      · rw [List.getElem?_append_right (by omega)] at hx
        obtain ⟨y, hy, hv⟩ := hln.get hx
        refine ⟨y, ?_, hv.mono (Sub.append _ _)⟩
        have hil : i - old.length < new'.length := (List.getElem?_eq_some_iff.1 hy).1
        have := j5 (i - old.length) hil
        rw [show p.s + o + i = p.s + o + k * e + 0 + (i - old.length) from by omega, this]
        exact hy
    · rw [AHeap.get_set _ _ _ _] at hl
      split at hl
      · simp [live] at hl
      · exact H.inj d b q p ‹_› hq hp hl (by rw [hg]; rfl)
  | _ => rw [hg] at he; simp at he

theorem aappend_sim (H : HR P ρ w0 h w) {ts : Array TypeId} {ty : TypeId} {s s' x x' v : Value} {h' : AHeap} (hf : aappend P h ts s x = some (v, h')) (hs : VR ρ s s') (hx : VR ρ x x') :
    Eff P ρ w0 v h' ((Builtin.append_ ts ty #[s', x']).run P w) := by
  unfold aappend at hf
  split at hf
  · rename_i st xt h0 h1
    split at hf
    · rename_i elem xd base sLen sCap hu hxu
      split at hf
      · rename_i i z n hi hz hlen
        split at hf
        · cases hf
        · rename_i hc
          simp only [Bool.or_eq_true, decide_eq_true_eq, not_or, Bool.not_eq_true] at hc
          obtain ⟨⟨⟨⟨c1, c2⟩, c3⟩, c5⟩, c6⟩ := hc
          have c5' : z.cells.size = i.size := Decidable.not_not.1 c5
          have hz1 := (azero_sim (ρ := ρ) hz).1
          simp only [hi, Option.bind_some] at hz1
          have hl := lenOf_sim (P := P) (w := w) hlen hx
          split at hf
          · cases hf
          · rename_i new hnew
            obtain ⟨new', hr1, hln⟩ := firstOf_sim H hnew hx (fun q hq => by rw [hlen] at hq; cases hq; exact Nat.le_refl _)
            split at hf
            · cases hf
            rename_i hnl
            have hnl := Decidable.not_not.1 hnl
            split at hf
            · rename_i hcap
              split at hf
              · rename_i hroom
                simp only [Option.map_eq_some_iff] at hf
                obtain ⟨h2, hw, he⟩ := hf
                cases he
                obtain ⟨base', n', c', w', rfl, hst, H'⟩ := awriteAt_sim H rfl hs hw hln
                have hn' : n' = sLen ∧ c' = sCap ∧ VR ρ (.slice base (sLen + n) sCap) (.slice base' (sLen + n) sCap) := by
                  cases hs with
                  | snil n c hc => exact ⟨rfl, rfl, .snil _ _ hc⟩
                  | slice i n c hp hc => exact ⟨rfl, rfl, .slice _ _ _ hp hc⟩
                  | opn i n c hp hc hz => exact absurd hcap (Nat.lt_irrefl _)
                  | void a c k hk => omega
                obtain ⟨rfl, rfl, hv⟩ := hn'
                have hr := run_append_stays (P := P) (w := w) (ty := ty) h0 h1 hu hxu c1 hi hl hroom hr1 hst
                exact ⟨ρ, _, w', hr, Sub.refl ρ, H', hv⟩
              · rename_i hroom
                split at hf
                · rename_i old hold
                  split at hf
                  rotate_left
                  · cases hf
                  rename_i hol
                  cases hf
                  obtain ⟨old', hr2, hlo⟩ := firstOf_sim H.drew' hold hs (fun q hq => by cases hq; exact Nat.le_refl _)
                  obtain ⟨new2, hr3, hln2⟩ := firstOf_sim H.drew' hnew hx (fun q hq => by rw [hlen] at hq; cases hq; exact Nat.le_refl _)
                  have hsh : ∃ base', s' = .slice base' sLen sCap := by
                    cases hs with
                    | snil n c hc => exact ⟨_, rfl⟩
                    | slice i n c hp hc => exact ⟨_, rfl⟩
                    | opn i n c hp hc hz => exact absurd hcap (Nat.lt_irrefl _)
                    | void a c k hk => omega
                  obtain ⟨base', rfl⟩ := hsh
                  have hr := run_append_grows (P := P) (w := w) (ty := ty) h0 h1 hu hxu c1 hi hz1 hl (by omega) c3 (by omega) hr2 hr3
                  rw [hr]
                  exact grown_sim H c5' hlo hln2 (by rw [← hlo.1]; exact hol) (by rw [← hln2.1]; exact hnl)
                · cases hf
            · split at hf
              · rename_i hcap
                subst hcap
                split at hf
                · rename_i hn0
                  subst hn0
                  split at hf
                  · rename_i hnn
                    subst hnn
                    cases hf
                    rw [hln.nil_left] at hr1
                    cases hs with
                    | snil n c hc => exact absurd hc (Nat.lt_irrefl _)
                    | slice i n c hp hc => exact absurd hc (Nat.lt_irrefl _)
                    | opn j n c hp hnc hzc =>
                      rename_i b p
                      have hr := run_append_stays (P := P) (w := w) (w' := w) (ty := ty) h0 h1 hu hxu c1 hi (base := some ⟨p.b, p.s + j, none⟩) hl (by omega) hr1 (by rfl)
                      exact ⟨ρ, _, w, hr, Sub.refl ρ, H, .opn _ _ _ hp hnc hzc⟩
                    | void a c k hk =>
                      have hr := run_append_stays (P := P) (w := w) (w' := w) (ty := ty) h0 h1 hu hxu c1 hi (base := some a) (sLen := 0) (sCap := c) hl (by omega) hr1 rfl
                      exact ⟨ρ, _, w, hr, Sub.refl ρ, H, .void _ _ _ hk⟩
                  · cases hf
                · rename_i hn0
                  split at hf
                  · rename_i b o
                    split at hf
                    · rename_i old e hold he
                      split at hf
                      · rename_i hcond
                        obtain ⟨rfl, hcell⟩ := hcond
                        cases hf
                        cases hs with
                        | slice j n c hp hc => exact absurd hc (Nat.lt_irrefl _)
                        | opn j k c hp hnc hzc =>
                          rename_i p
                          by_cases hroom : sLen + n ≤ c
                          · obtain ⟨w', hst, hH, hpe⟩ := stays_sim H hp hold he hln hcell hnl hroom hzc
                            have hr := run_append_stays (P := P) (w := w) (w' := w') (ty := ty) h0 h1 hu hxu c1 hi (base := some ⟨p.b, p.s + o, none⟩) hl hroom hr1 (by simpa [Addr.add_none] using hst)
                            refine ⟨_, _, w', hr, Sub.append _ _, hH, ?_⟩
                            refine open_new (p := ⟨p.b, p.s + o, i.size, p.z⟩) ?_ hroom (by rw [hpe] at hzc; exact hzc)
                            have := (H.kill b (H.lt hp)).last ⟨p.b, p.s + o, i.size, p.z⟩
                            simpa using this
                          · obtain ⟨old', hr2, hlo⟩ := firstOf_sim H.drew' (x := .slice (some ⟨b, o, none⟩) sLen big) (n := sLen) (size := i.size) (by simpa [firstOf] using hold) (.opn _ _ _ hp hnc hzc) (fun q hq => by cases hq; exact Nat.le_refl _)
                            obtain ⟨new2, hr3, hln2⟩ := firstOf_sim H.drew' hnew hx (fun q hq => by rw [hlen] at hq; cases hq; exact Nat.le_refl _)
                            have hr := run_append_grows (P := P) (w := w) (ty := ty) h0 h1 hu hxu c1 hi hz1 hl (by omega) c3 (by omega) hr2 hr3
                            rw [hr]
                            have hol : old.length = sLen * i.size := by
                              unfold areadN at hold
                              simp only [Option.bind_eq_some_iff] at hold
                              obtain ⟨cs, _, hcs⟩ := hold
                              exact (takeAt_spec hcs).1
                            exact grown_sim (H.kill b (H.lt hp)) c5' hlo hln2 (by rw [← hlo.1]; exact hol) (by rw [← hln2.1]; exact hnl)
                      · cases hf
                    · cases hf
                  · cases hf
              · split at hf
                · rename_i hcap
                  obtain ⟨hcap, hsl⟩ := hcap
                  subst hcap
                  subst hsl
                  split at hf
                  · cases hs with
                    | snil n c hc => exact absurd hc (by decide)
                    | void a c k hk =>
                      have hc0 : c = 0 := by omega
                      subst hc0
                      split at hf
                      · rename_i hn0
                        subst hn0
                        split at hf
                        · rename_i hnn
                          subst hnn
                          cases hf
                          rw [hln.nil_left] at hr1
                          have hr := run_append_stays (P := P) (w := w) (w' := w) (ty := ty) h0 h1 hu hxu c1 hi (base := some a) (sLen := 0) (sCap := 0) hl (by omega) hr1 rfl
                          exact ⟨ρ, _, w, hr, Sub.refl ρ, H, .void _ _ _ hk⟩
                        · cases hf
                      · cases hf
                        obtain ⟨old', hr2, hlo⟩ := firstOf_sim H.drew' (x := .slice none 0 (big + 1)) (n := 0) (size := i.size) (l := []) rfl (.void a 0 (big + 1) hk) (fun q hq => by cases hq; exact Nat.le_refl _)
                        obtain ⟨new2, hr3, hln2⟩ := firstOf_sim H.drew' hnew hx (fun q hq => by rw [hlen] at hq; cases hq; exact Nat.le_refl _)
                        have hr := run_append_grows (P := P) (w := w) (ty := ty) h0 h1 hu hxu c1 hi hz1 hl (by omega) c3 (by omega) hr2 hr3
                        rw [hr]
                        have := grown_sim (elem := elem) H c5' hlo hln2 (sLen := 0) (sCap := 0) (by simpa using hlo.1.symm) (by rw [← hln2.1]; exact hnl)
                        simpa using this
                  · cases hf
                · cases hf
      · cases hf
    · cases hf
  · cases hf

theorem foldl_push_ints : ∀ (ns : List Int) (r : ByteArray), (ns.foldl (fun r n => r.push (UInt8.ofNat n.toNat)) r) = ⟨r.data ++ (ns.map fun n => UInt8.ofNat n.toNat).toArray⟩
  | [], r => by simp
  | n :: ns, r => by
    simp only [List.foldl_cons]
    rw [foldl_push_ints ns]
    simp [ByteArray.push]

theorem aconvert_sim (H : HR P ρ w0 h w) {src dst : TypeId} {x x' v : Value} {h' : AHeap} (hf : aconvert P h src dst x = some (v, h')) (hx : VR ρ x x') :
    Eff P ρ w0 v h' ((convert src dst x').run P w) := by
  unfold aconvert at hf
  split at hf
  · rename_i ds k k' n hs hd
    cases hf
    rw [hx.int_inv]
    exact ⟨ρ, _, w, by simp [convert, run_underlying hs, run_underlying hd, Conv.intToInt], Sub.refl ρ, H, .int _ _⟩
  · rename_i ds s hs hd
    cases hf
    cases hx
    exact ⟨ρ, _, w, by simp [convert, run_underlying hs, run_underlying hd], Sub.refl ρ, H, .string _⟩
  · rename_i e s hs hd
    split at hf
    · rename_i he
      cases hf
      cases hx
      have hge := grownCap_ge w s.size 0 e
      have hr := run_bytes_of_string (P := P) w src dst e s hs hd he
      generalize grownCap w s.size 0 e = c at hge hr
      have hl : LR ρ (s.data.toList.map fun b => Value.int .u8 b.toNat) (s.data.toList.map fun b => Value.int .u8 b.toNat) := LR.bytes _
      obtain ⟨h1, h2⟩ := hl.pre (bytesRow s c) (by simp only [bytesRow, Array.toList_append, Array.toList_map]; exact List.take_left)
      have hsz : (bytesRow s c).size = c := by
        simp only [bytesRow, Array.size_append, Array.size_map, Array.size_replicate]
        have : s.data.size = s.size := rfl
        omega
      refine ⟨_, _, _, hr, Sub.append _ _, H.drew'.newRow e 1 h1 h2 _ (fun i hi => by show (decide ((bytesRow s c).size ≤ i) && _) = false; rw [decide_eq_false (by omega)]; rfl), ?_⟩
      exact open_new (p := ⟨w.drew.heap.size, 0, 1, (bytesRow s c).size⟩) (H.last _) hge (by simp [hsz])
    · cases hf
  · rename_i e a len cap hs hd
    split at hf
    · rename_i he
      cases hf
      cases hx with
      | snil n c hc =>
        refine ⟨ρ, .string .empty, w, ?_, Sub.refl ρ, H, .string _⟩
        rw [run_convert_bytes_string w src dst e none len cap hs he hd]
        simp [Conv.bytesToString]
      | void a c k hk =>
        refine ⟨ρ, .string .empty, w, ?_, Sub.refl ρ, H, .string _⟩
        rw [run_convert_bytes_string w src dst e (some a) 0 c hs he hd]
        have := run_loadCells_list (P := P) (w := w) a [] (fun j v hv => by simp at hv)
        simp at this
        simp [Conv.bytesToString, this]
    · rename_i b o he
      simp only [Option.bind_eq_bind] at hf
      cases hr : areadN h b o len with
      | none => simp [hr] at hf
      | some cs =>
        simp only [hr, Option.bind_some] at hf
        cases hb : toBytes cs with
        | none => simp [hb] at hf
        | some l =>
          simp only [hb, Option.bind_some, Option.some.injEq] at hf
          cases hf
          have key : ∀ (p : Pl) (c' : Nat), ρ[b]? = some p → Eff P ρ w0 (.string ⟨l.toArray⟩) h ((convert src dst (.slice (some ⟨p.b, p.s + o, none⟩) len c')).run P w) := by
            intro p c' hp
            obtain ⟨l', h1, h2, h3⟩ := areadN_sim H hr hp
            have hns : ∃ ns : List Int, l' = ns.map (Value.int .u8) ∧ ns.map (fun n => UInt8.ofNat n.toNat) = l := by
              have : ∀ (cs l' : List Value) (l : List UInt8), toBytes cs = some l → LR ρ cs l' → ∃ ns : List Int, l' = ns.map (Value.int .u8) ∧ ns.map (fun n => UInt8.ofNat n.toNat) = l := by
                intro cs
                induction cs with
                | nil => intro l' l hl hlr; simp [toBytes] at hl; subst hl; rw [hlr.nil_left]; exact ⟨[], rfl, rfl⟩
                | cons v cs ih =>
                  intro l' l hl hlr
                  obtain ⟨y, ys, rfl, hv, hs⟩ := hlr.uncons
                  unfold toBytes at hl
                  split at hl
                  · rename_i e; cases e
                  · rename_i n r e
                    cases e
                    simp only [Option.map_eq_some_iff] at hl
                    obtain ⟨l2, hl2, rfl⟩ := hl
                    obtain ⟨ns, rfl, rfl⟩ := ih ys l2 hl2 hs
                    rw [hv.int_inv]
                    exact ⟨n :: ns, rfl, rfl⟩
                  · cases hl
              exact this cs l' l hb h1
            obtain ⟨ns, rfl, rfl⟩ := hns
            have hlen : ns.length = len := by have := h1.1; simp at this; omega
            refine ⟨ρ, _, w, ?_, Sub.refl ρ, H, .string _⟩
            rw [run_convert_bytes_string w src dst e _ len c' hs he hd]
            have hl := run_loadCells_of (P := P) _ _ _ h3
            simp only [List.length_map] at hl
            rw [hlen] at hl
            rw [run_bytesToString w _ len c' ns hl, foldl_push_ints]
            have he0 : ByteArray.empty.data = #[] := rfl
            rw [he0]
            simp
          cases hx with
          | slice i n c hp hc => exact key _ _ hp
          | opn i n c hp hc hz => exact key _ _ hp
    · cases hf
  · cases hf

end Go.Am

/-
  The abstract machine: one operation, of whatever kind.
-/
namespace Go.Am
open Go Go.RowKit

variable {P : Program} {ρ : Ren} {w0 w : World} {h : AHeap}

/-- What an operation with a value does to the worlds. -/
def OpEff (P : Program) (ρ : Ren) (w0 : World) (v : Value) (h' : AHeap) (r : Result Next) : Prop :=
  ∃ ρ' v' n w', r = .ok n w' ∧ Nx v' n ∧ Sub ρ ρ' ∧ HR P ρ' w0 h' w' ∧ VR ρ' v v'

theorem OpEff.of_eff {v : Value} {h' : AHeap} {s : Sem Value} (H : Eff P ρ w0 v h' (s.run P w)) : OpEff P ρ w0 v h' ((do pure (.value (← s)) : Sem Next).run P w) := by
  obtain ⟨ρ', v', w', h1, h2, h3, h4⟩ := H
  exact ⟨ρ', v', .value v', w', by simp [h1], .inl rfl, h2, h3, h4⟩

theorem w2_some {x : Option (Value × AHeap)} {v : Value} {h' : AHeap} (hf : w2 x = some (.value v h')) : x = some (v, h') := by
  cases x with
  | none => simp [w2] at hf
  | some p => obtain ⟨a, b⟩ := p; simp [w2] at hf; obtain ⟨rfl, rfl⟩ := hf; rfl

theorem w2_enter {x : Option (Value × AHeap)} {f : FuncId} {args : List Value} {h' : AHeap} (hf : w2 x = some (.enter f args h')) : False := by
  cases x <;> simp [w2] at hf

theorem w2_round {x : Option (Value × AHeap)} {l : Nat} {args : List Value} (hf : w2 x = some (.round l args)) : False := by
  cases x <;> simp [w2] at hf

theorem aeff_value (H : HR P ρ w0 h w) {o : Oper} {ev ev' : Operand → Value} {v : Value} {h' : AHeap} (hf : aeff P ev h o = some (.value v h'))
    (hx : ∀ x ∈ o.op.operands.toList, VR ρ (ev x) (ev' x)) : OpEff P ρ w0 v h' ((execOp ev' o).run P w) := by
  obtain ⟨dst, op, type, pos, after, guard⟩ := o
  unfold aeff at hf
  simp only at hf hx
  split at hf
  · rename_i e
    split at hf
    · rename_i z hz
      obtain ⟨hz1, hz2⟩ := azero_sim (ρ := ρ) hz
      have h1 := anew_sim H (cc := z.cells) e (w2_some hf) hz2
      refine OpEff.of_eff (s := Instr.alloc e true (.tuple #[])) ?_
      have h2 := run_zeroValue (P := P) (w := w) hz1
      have : (Instr.alloc e true (.tuple #[])).run P w = .ok (.pointer (some ⟨w.heap.size, 0, none⟩)) (w.alloc (.cells z.cells e)) := by
        simp [Instr.alloc, h2, newVar, newRow]
      rw [this]; exact h1
    · cases hf
  · rename_i e x
    have h1 := anew_sim H (cc := (ev' x).cells) e (w2_some hf) (hx x (by simp [Op.operands])).cells
    refine OpEff.of_eff (s := Instr.box e (ev' x)) ?_
    have : (Instr.box e (ev' x)).run P w = .ok (.pointer (some ⟨w.heap.size, 0, none⟩)) (w.alloc (.cells (ev' x).cells e)) := by
      simp [Instr.box, newVar, newRow]
    rw [this]; exact h1
  · rename_i t n parts
    have hp : PR ρ (parts.toList.map fun p => (p.1, ev p.2)) (parts.map fun (i, x) => (i, ev' x)).toList := by
      simp only [Array.toList_map]
      exact PR.map_ops fun x hx' => hx x.2 (by simp [Op.operands]; exact ⟨x.1, by simpa using hx'⟩)
    exact OpEff.of_eff (abuildSlice_sim H (w2_some hf) hp)
  · rename_i t a x
    simp only [Option.map_eq_some_iff] at hf
    obtain ⟨h2, hs, he⟩ := hf
    cases he
    obtain ⟨w', h3, h4⟩ := astore_sim H hs (hx a (by simp [Op.operands])) (hx x (by simp [Op.operands]))
    exact ⟨ρ, undef, .skip, w', by simp [execOp, h3], .inr ⟨rfl, rfl⟩, Sub.refl ρ, h4, VR.undef ρ⟩
  · rename_i s d x
    exact OpEff.of_eff (aconvert_sim H (w2_some hf) (hx x (by simp [Op.operands])))
  · rename_i t l c
    exact OpEff.of_eff (amakeSlice_sim H (w2_some hf) (hx l (by simp [Op.operands])) (hx c (by simp [Op.operands])))
  · rename_i c
    obtain ⟨callee, args, argTypes⟩ := c
    simp only at hf
    cases callee with
    | builtin b =>
      simp only at hf
      have hargs : ∀ x ∈ args.toList, VR ρ (ev x) (ev' x) := fun x hx' => hx x (by simp [Op.operands, Call.operands]; simpa using hx')
      split at hf
      · rename_i s x hax
        have ha : args = #[s, x] := by rw [← Array.toArray_toList (xs := args), hax]
        subst ha
        have h1 := aappend_sim H (ty := type) (w2_some hf) (hargs s (by simp)) (hargs x (by simp))
        have := OpEff.of_eff h1
        simpa [execOp, resolve, invoke, builtin] using this
      · rename_i s x hax
        have ha : args = #[s, x] := by rw [← Array.toArray_toList (xs := args), hax]
        subst ha
        have h1 := acopy_sim H (ty := type) (w2_some hf) (hargs s (by simp)) (hargs x (by simp))
        have := OpEff.of_eff h1
        simpa [execOp, resolve, invoke, builtin] using this
      · cases hf
    | value f => simp only at hf; split at hf <;> cases hf
    | invoke r m => cases hf
  · cases hf

theorem aeff_enter {o : Oper} {ev ev' : Operand → Value} {f : FuncId} {args : List Value} {h' : AHeap} (hf : aeff P ev h o = some (.enter f args h'))
    (hx : ∀ x ∈ o.op.operands.toList, VR ρ (ev x) (ev' x)) :
    h' = h ∧ ∃ args' : Array Value, LR ρ args args'.toList ∧ ∀ fn : Func, P.funcs[f]? = some fn → fn.body.isSome = true → (fn.name == "runtime.NumGoroutine") = false → (execOp ev' o).run P w = .ok (.enter f args') w := by
  obtain ⟨dst, op, type, pos, after, guard⟩ := o
  unfold aeff at hf
  simp only at hf hx
  split at hf
  · split at hf
    · exact (w2_enter hf).elim
    · cases hf
  · exact (w2_enter hf).elim
  · exact (w2_enter hf).elim
  · simp at hf
  · exact (w2_enter hf).elim
  · exact (w2_enter hf).elim
  · rename_i c
    obtain ⟨callee, cargs, argTypes⟩ := c
    simp only at hf
    cases callee with
    | builtin b => simp only at hf; split at hf <;> first | exact (w2_enter hf).elim | cases hf
    | invoke r m => cases hf
    | value fo =>
      simp only at hf
      have h1 := hx fo (by simp [Op.operands, Call.operands])
      have hargs : LR ρ (cargs.toList.map ev) (cargs.toList.map ev') := LR.map_ops fun x hx' => hx x (by simp [Op.operands, Call.operands]; exact .inr (by simpa using hx'))
      split at hf
      · rename_i g first captured hfo
        cases hf
        rw [hfo] at h1
        generalize hfo' : ev' fo = vf at h1
        cases h1 with
        | func f' g' xs ys us vs hfn a1 a2 b1 b2 =>
          cases hfn
          refine ⟨rfl, ys ++ cargs.map ev' ++ vs, ?_, fun fn hfn hb hnm => ?_⟩
          · simp only [Array.toList_append, Array.toList_map]
            exact ((LR.of_arrays a1 a2).append hargs).append (LR.of_arrays b1 b2)
          · cases hbo : fn.body with
            | none => simp [hbo] at hb
            | some bd =>
              have hnm' : ¬ fn.name = "runtime.NumGoroutine" := by simpa using hnm
              simp [execOp, resolve, hfo', Deferred.ofValue, invoke, callFunc, hfn, hnm', hbo]
      · cases hf
      · cases hf
  · cases hf

theorem aeff_round {o : Oper} {ev ev' : Operand → Value} {l : Nat} {args : List Value} (hf : aeff P ev h o = some (.round l args))
    (hx : ∀ x ∈ o.op.operands.toList, VR ρ (ev x) (ev' x)) :
    ∃ (p : Pl) (args' : Array Value), ρ[l]? = some p ∧ LR ρ args args'.toList ∧ (execOp ev' o).run P w = (Instr.yield p.b args').run P w := by
  obtain ⟨dst, op, type, pos, after, guard⟩ := o
  unfold aeff at hf
  simp only at hf hx
  split at hf
  · split at hf
    · exact (w2_round hf).elim
    · cases hf
  · exact (w2_round hf).elim
  · exact (w2_round hf).elim
  · simp at hf
  · exact (w2_round hf).elim
  · exact (w2_round hf).elim
  · rename_i c
    obtain ⟨callee, cargs, argTypes⟩ := c
    simp only at hf
    cases callee with
    | builtin b => simp only at hf; split at hf <;> first | exact (w2_round hf).elim | cases hf
    | invoke r m => cases hf
    | value fo =>
      simp only at hf
      have h1 := hx fo (by simp [Op.operands, Call.operands])
      have hargs : LR ρ (cargs.toList.map ev) (cargs.toList.map ev') := LR.map_ops fun x hx' => hx x (by simp [Op.operands, Call.operands]; exact .inr (by simpa using hx'))
      split at hf
      · cases hf
      · rename_i g first captured hfo
        cases hf
        rw [hfo] at h1
        generalize hfo' : ev' fo = vf at h1
        cases h1 with
        | func f' g' xs ys us vs hfn a1 a2 b1 b2 =>
          cases hfn with
          | yield hp =>
            rename_i p
            refine ⟨p, ys ++ cargs.map ev', hp, ?_, ?_⟩
            · simp only [Array.toList_append, Array.toList_map]
              exact (LR.of_arrays a1 a2).append hargs
            · simp [execOp, resolve, hfo', Deferred.ofValue, invoke]
      · cases hf
  · cases hf

/-- The operands of an operation of the program's text. -/
theorem okOper_sim (H : HR P ρ w0 h w) {o : Oper} (ho : okOper P o = true) {ev : Operand → Value} {a : Act} {f : Nat → Value} (hev : ∀ x, ev x = match x with | .tmp t => f t | .const v => v | .global g => .pointer (some ⟨g, 0, none⟩) | .func g => .func (.func g) #[] #[])
    (ht : ∀ t, VR ρ (f t) (a.tmps.getD t undef)) : ∀ x ∈ o.op.operands.toList, VR ρ (ev x) (a.eval x) := by
  have hall : o.op.operands.toList.all (okOperand P) = true := by
    unfold okOper at ho
    split at ho
    · cases ho
    · cases ho
    · exact ho
  intro x hx
  have hok := List.all_eq_true.1 hall x hx
  rw [hev x]
  cases x with
  | tmp t => exact ht t
  | const v => exact plainV_sim hok
  | global g =>
    obtain ⟨p, hp, hb, hs⟩ := H.glob g (by simpa [okOperand, Nat.blt_eq] using hok)
    have := VR.ptr (ρ := ρ) 0 hp
    rw [hb, hs] at this
    simpa [Act.eval] using this
  | func g => exact .func _ _ _ _ _ _ (.func g) rfl (fun i x y h => by simp at h) rfl (fun i x y h => by simp at h)

theorem okOper_defer {o : Oper} (ho : okOper P o = true) : ∀ c, o.op ≠ .defer c := by
  intro c e
  unfold okOper at ho
  rw [e] at ho
  cases ho

theorem aop_value (H : HR P ρ w0 h w) {o : Oper} {ev ev' : Operand → Value} {v : Value} {h' : AHeap} (hf : aop P ev h o = some (.value v h'))
    (hx : okOper P o = true → ∀ x ∈ o.op.operands.toList, VR ρ (ev x) (ev' x)) : OpEff P ρ w0 v h' ((execOp ev' o).run P w) := by
  unfold aop at hf
  cases hok : okOper P o with
  | false => simp [hok] at hf
  | true =>
    simp only [hok, cond_true] at hf
    split at hf
    · rename_i u hu
      cases hf
      obtain ⟨v', h1, h2⟩ := apure_sim H hu (hx hok)
      exact ⟨ρ, v', .value v', w, h1, .inl rfl, Sub.refl ρ, H, h2⟩
    · exact aeff_value H hf (hx hok)

end Go.Am

/-
  The abstract machine: frames, and operations one behind the other.
-/
namespace Go.Am
open Go Go.RowKit

variable {P : Program} {ρ ρ' : Ren} {w0 w : World} {h : AHeap}

inductive ItemR (ρ : Ren) : AItem → Item → Prop where
  | code (c : Code) : ItemR ρ (.code c) (.code c)
  | inBlock (id : Nat) : ItemR ρ (.inBlock id) (.inBlock id)
  | inLoop (c : Code) : ItemR ρ (.inLoop c) (.inLoop c)
  | inScope (c : Code) : ItemR ρ (.inScope c) (.inScope c)
  | ops (all : Array Oper) (k : Nat) : k ≤ all.size → ItemR ρ (.ops all k (all.toList.drop k)) (.inRegion all (List.range' k (all.size - k)))
  | inRangeFunc {l : Nat} {p : Pl} : ρ[l]? = some p → ItemR ρ (.inRangeFunc l) (.inRangeFunc p.b)
  | endRangeFunc {l : Nat} {p : Pl} : ρ[l]? = some p → ItemR ρ (.endRangeFunc l) (.endRangeFunc p.b)
  | beginRound : ItemR ρ .beginRound .beginRound

inductive TodoR (ρ : Ren) : List AItem → List Item → Prop where
  | nil : TodoR ρ [] []
  | cons {x : AItem} {y : Item} {xs : List AItem} {ys : List Item} : ItemR ρ x y → TodoR ρ xs ys → TodoR ρ (x :: xs) (y :: ys)

inductive DR (ρ : Ren) : List Nat → List Deferred → Prop where
  | nil : DR ρ [] []
  | cons {r : Nat} {p : Pl} {rs : List Nat} {ds : List Deferred} : ρ[r]? = some p → DR ρ rs ds → DR ρ (r :: rs) ({ target := .collected p.b, args := #[] } :: ds)

inductive RO (ρ : Ren) : Option Nat → Option Nat → Prop where
  | none : RO ρ none none
  | some {l : Nat} {p : Pl} : ρ[l]? = some p → RO ρ (some l) (some p.b)

structure FR (ρ : Ren) (a : AFrame) (fr : Frame) : Prop where
  fn : fr.fn = a.fn
  tmps : TR ρ a.tmps fr.tmps
  todo : TodoR ρ a.todo fr.todo
  ro : RO ρ a.roundOf fr.roundOf
  defers : DR ρ a.defers fr.defers
  mode : fr.mode = if a.ret then .returning else .run
  kind : fr.kind = .normal

inductive CR (ρ : Ren) (cs0 : List Frame) : List AFrame → List Frame → Prop where
  | nil : CR ρ cs0 [] cs0
  | cons {a : AFrame} {fr : Frame} {as : List AFrame} {frs : List Frame} : FR ρ a fr → CR ρ cs0 as frs → CR ρ cs0 (a :: as) (fr :: frs)

theorem ItemR.mono (hs : Sub ρ ρ') {x : AItem} {y : Item} (H : ItemR ρ x y) : ItemR ρ' x y := by
  cases H with
  | code c => exact .code c
  | inBlock c => exact .inBlock c
  | inLoop c => exact .inLoop c
  | inScope c => exact .inScope c
  | ops all k hk => exact .ops all k hk
  | inRangeFunc hp => exact .inRangeFunc (hs _ _ hp)
  | endRangeFunc hp => exact .endRangeFunc (hs _ _ hp)
  | beginRound => exact .beginRound

theorem TodoR.mono (hs : Sub ρ ρ') {x : List AItem} {y : List Item} (H : TodoR ρ x y) : TodoR ρ' x y := by
  induction H with
  | nil => exact .nil
  | cons h _ ih => exact .cons (h.mono hs) ih

theorem DR.mono (hs : Sub ρ ρ') {x : List Nat} {y : List Deferred} (H : DR ρ x y) : DR ρ' x y := by
  induction H with
  | nil => exact .nil
  | cons h _ ih => exact .cons (hs _ _ h) ih

theorem RO.mono (hs : Sub ρ ρ') {x y : Option Nat} (H : RO ρ x y) : RO ρ' x y := by
  cases H with
  | none => exact .none
  | some h => exact .some (hs _ _ h)

theorem FR.mono (hs : Sub ρ ρ') {a : AFrame} {fr : Frame} (H : FR ρ a fr) : FR ρ' a fr :=
  ⟨H.fn, H.tmps.mono hs, H.todo.mono hs, H.ro.mono hs, H.defers.mono hs, H.mode, H.kind⟩

theorem CR.mono (hs : Sub ρ ρ') {cs0 : List Frame} {x : List AFrame} {y : List Frame} (H : CR ρ cs0 x y) : CR ρ' cs0 x y := by
  induction H with
  | nil => exact .nil
  | cons h _ ih => exact .cons (h.mono hs) ih

/-! Temporaries. -/

theorem TR.put {t : Tmps} {a : Act} (H : TR ρ t a.tmps) {d : Option Nat} (hd : okDst t d = true) {v v' : Value} (hv : VR ρ v v') : TR ρ (putT t d v) (a.put d v').tmps := by
  cases d with
  | none => exact H
  | some d =>
    have hlt : d < t.size := by simpa [okDst, Nat.blt_eq] using hd
    obtain ⟨h1, h3⟩ := H
    refine ⟨by simp [putT, Act.put, h1], fun i => ?_⟩
    simp only [putT, Act.put]
    rw [Tmps.get_set]
    by_cases hi : i = d
    · subst hi
      have : i < a.tmps.size := by omega
      simp [this, hv]
    · rw [if_neg hi]
      have : (a.tmps.setIfInBounds d v').getD i undef = a.tmps.getD i undef := by
        simp only [Array.getD_eq_getD_getElem?]
        rw [Array.getElem?_setIfInBounds_ne (by omega)]
      rw [this]; exact h3 i

theorem VR.bool_right {x : Value} {b : Bool} (H : VR ρ x (.bool b)) : x = .bool b := by cases H; rfl

theorem yielded_sim {t : Tmps} {c : Array Value} (H : TR ρ t c) (ops : Array Oper) (j : Nat) : ayielded ops t j = yielded ops c j := by
  obtain ⟨h1, h3⟩ := H
  unfold ayielded yielded
  have he : ops.toList[j]? = ops[j]? := by simp
  rw [he]
  cases hd : ((ops[j]?).bind (·.dst) : Option Nat) with
  | none => simp
  | some d =>
    simp only [Option.bind_some]
    by_cases hlt : d < t.size
    · have e1 : Nat.blt d t.size = true := by simpa [Nat.blt_eq] using hlt
      have e2 : c[d]? = some (c.getD d undef) := by
        have : d < c.size := by omega
        simp [this]
      rw [e2]
      simp only [e1, if_true]
      have hv := h3 d
      generalize t.get d = x at hv ⊢
      generalize c.getD d undef = y at hv ⊢
      cases hv <;> rfl
    · have e1 : Nat.blt d t.size = false := by
        cases e : Nat.blt d t.size with
        | false => rfl
        | true => exact absurd (by simpa [Nat.blt_eq] using e) hlt
      have e2 : c[d]? = none := by
        have : ¬ d < c.size := by omega
        simp [this]
      simp [e1, e2]

theorem wanted_sim {t : Tmps} {c : Array Value} (H : TR ρ t c) (ops : Array Oper) (o : Oper) : awanted ops t o = Region.wanted o (yielded ops c) := by
  unfold awanted Region.wanted
  cases o.guard with
  | none => rfl
  | some g => obtain ⟨j, want⟩ := g; simp only [yielded_sim H]

theorem aev_sim {t : Tmps} {a : Act} (H : HR P ρ w0 h w) (HT : TR ρ t a.tmps) {o : Oper} (ho : okOper P o = true) : ∀ x ∈ o.op.operands.toList, VR ρ (aev t x) (a.eval x) :=
  okOper_sim H ho (f := t.get) (fun x => by cases x <;> rfl) HT.2

/-! One operation. -/

theorem stepR_value {all : Array Oper} {k : Nat} {rest : List Nat} {b : Frame} {a : Act} {todo : List Item} {cs : List Frame} {o : Oper} (ho : all[k]? = some o) (hw : Region.wanted o (yielded all a.tmps) = true)
    (hd : ∀ c, o.op ≠ .defer c) {n : Next} {v : Value} {w w' : World} (hr : (execOp a.eval o).run P w = .ok n w') (hn : Nx v n) :
    step P (lone (b.atR a (.inRegion all (k :: rest) :: todo)) cs w) = .next (lone (b.atR (a.put o.dst v) (.inRegion all rest :: todo)) cs w') := by
  have hf : (b.atR a (.inRegion all (k :: rest) :: todo)).finish v = b.atR (a.put o.dst v) (.inRegion all rest :: todo) := by
    rw [Frame.finish_atR, ho]; rfl
  refine step_lone_go ?_
  rw [stepGR_op ho hw, Oper.semAt_eq _ _ _ hd, ← hf]
  rcases hn with rfl | ⟨rfl, rfl⟩
  · simp only [stepG.apply, Sem.runT_eq, hr, if_true, GStep.bare_after]; rfl
  · simp only [stepG.apply, Sem.runT_eq, hr, if_true, GStep.bare_after]; rfl

theorem stepR_enter {all : Array Oper} {k : Nat} {rest : List Nat} {b : Frame} {a : Act} {todo : List Item} {cs : List Frame} {o : Oper} (ho : all[k]? = some o) (hw : Region.wanted o (yielded all a.tmps) = true)
    (hd : ∀ c, o.op ≠ .defer c) {f : FuncId} {args : Array Value} {w w' : World} (hr : (execOp a.eval o).run P w = .ok (.enter f args) w') :
    step P (lone (b.atR a (.inRegion all (k :: rest) :: todo)) cs w) = .next (lone (Frame.enter P f args .normal) (b.atR a (.inRegion all (k :: rest) :: todo) :: cs) w') := by
  refine step_lone_go ?_
  rw [stepGR_op ho hw, Oper.semAt_eq _ _ _ hd]
  simp only [stepG.apply, Sem.runT_eq, hr, if_true, GStep.bare_after]; rfl

theorem stepR_round {all : Array Oper} {k : Nat} {rest : List Nat} {b : Frame} {a : Act} {todo : List Item} {cs : List Frame} {o : Oper} (ho : all[k]? = some o) (hw : Region.wanted o (yielded all a.tmps) = true)
    (hd : ∀ c, o.op ≠ .defer c) {l : Nat} {f : FuncId} {tmps : Array Value} {assign body : Code} {w w' : World} (hr : (execOp a.eval o).run P w = .ok (.round l f tmps assign body) w') :
    step P (lone (b.atR a (.inRegion all (k :: rest) :: todo)) cs w) = .next (lone (Frame.round l f tmps assign body .normal) (b.atR a (.inRegion all (k :: rest) :: todo) :: cs) w') := by
  refine step_lone_go ?_
  rw [stepGR_op ho hw, Oper.semAt_eq _ _ _ hd]
  simp only [stepG.apply, Sem.runT_eq, hr, if_true, GStep.bare_after]; rfl

theorem range'_cons {k n : Nat} (hk : k < n) : List.range' k (n - k) = k :: List.range' (k + 1) (n - (k + 1)) := by
  have : n - k = (n - (k + 1)) + 1 := by omega
  rw [this, List.range'_succ]

theorem drop_cons {all : Array Oper} {k : Nat} {o : Oper} {rest : List Oper} (hd : all.toList.drop k = o :: rest) : k < all.size ∧ all[k]? = some o ∧ rest = all.toList.drop (k + 1) := by
  have hlt : k < all.toList.length := by
    rcases Nat.lt_or_ge k all.toList.length with h | h
    · exact h
    · rw [List.drop_eq_nil_of_le h] at hd; cases hd
  rw [List.drop_eq_getElem_cons hlt] at hd
  cases hd
  exact ⟨by simpa using hlt, by simp at hlt; simp [hlt], rfl⟩

theorem aop_okOper {ev : Operand → Value} {o : Oper} {x : ANext} (hf : aop P ev h o = some x) : okOper P o = true := by
  unfold aop at hf
  cases hok : okOper P o with
  | true => rfl
  | false => simp [hok] at hf

theorem goOps_sim {all : Array Oper} {b : Frame} {todo : List Item} {cs : List Frame} : ∀ (rest : List Oper) (k : Nat) (tmps tmps' : Tmps) (h h' : AHeap) (k' : Nat) (rest' : List Oper) (ρ : Ren) (a : Act) (w : World),
    goOps P all k rest tmps h = some (tmps', h', k', rest') → rest = all.toList.drop k → k ≤ all.size → TR ρ tmps a.tmps → HR P ρ w0 h w →
    ∃ ρ' a' w', Sub ρ ρ' ∧ TR ρ' tmps' a'.tmps ∧ a'.defers = a.defers ∧ HR P ρ' w0 h' w' ∧ rest' = all.toList.drop k' ∧ k' ≤ all.size ∧
      (∀ o r, rest' = o :: r → awanted all tmps' o = true) ∧
      Steps P (lone (b.atR a (.inRegion all (List.range' k (all.size - k)) :: todo)) cs w) (lone (b.atR a' (.inRegion all (List.range' k' (all.size - k')) :: todo)) cs w') := by
  intro rest
  induction rest with
  | nil =>
    intro k tmps tmps' h h' k' rest' ρ a w hf hr hk HT H
    simp [goOps] at hf
    obtain ⟨rfl, rfl, rfl, rfl⟩ := hf
    exact ⟨ρ, a, w, Sub.refl ρ, HT, rfl, H, hr, hk, fun o r e => (by cases e), Steps.refl _ _⟩
  | cons o rest ih =>
    intro k tmps tmps' h h' k' rest' ρ a w hf hr hk HT H
    obtain ⟨hlt, ho, hrest⟩ := drop_cons hr.symm
    simp only [goOps] at hf
    split at hf
    · rename_i hok
      split at hf
      · rename_i hw
        have hw' := hw
        rw [wanted_sim HT] at hw'
        split at hf
        · rename_i v h1 hop
          have hokk := aop_okOper hop
          obtain ⟨ρ1, v', n, w1, hr1, hn, hs, H1, hv⟩ := aop_value H hop (fun hk => aev_sim H HT hk)
          have hstep := stepR_value (b := b) (todo := todo) (cs := cs) (rest := List.range' (k + 1) (all.size - (k + 1))) ho hw' (okOper_defer hokk) hr1 hn
          rw [← range'_cons hlt] at hstep
          obtain ⟨ρ2, a2, w2, hs2, HT2, hd2, H2, hrr, hk2, hwn, hst⟩ := ih (k + 1) (putT tmps o.dst v) tmps' h1 h' k' rest' ρ1 (a.put o.dst v') w1 hf hrest hlt ((HT.mono hs).put hok hv) H1
          refine ⟨ρ2, a2, w2, hs.trans hs2, HT2, ?_, H2, hrr, hk2, hwn, .head hstep hst⟩
          rw [hd2]; cases o.dst <;> rfl
        · cases hf
          exact ⟨ρ, a, w, Sub.refl ρ, HT, rfl, H, hr, hk, fun o' r e => (by cases e; exact hw), Steps.refl _ _⟩
        · cases hf
      · rename_i hw
        have hw' : Region.wanted o (yielded all a.tmps) = false := by
          rw [← wanted_sim HT]; simpa using hw
        have hstep := stepR_op_skip (P := P) (b := b) (a := a) (k := todo) (cs := cs) (w := w) (ops := all) (i := k) (rest := List.range' (k + 1) (all.size - (k + 1))) (by simp [ho, hw'])
        simp only [ho, Option.bind_some] at hstep
        rw [← range'_cons hlt] at hstep
        obtain ⟨ρ2, a2, w2, hs2, HT2, hd2, H2, hrr, hk2, hwn, hst⟩ := ih (k + 1) (putT tmps o.dst undef) tmps' h h' k' rest' ρ (a.put o.dst undef) w hf hrest hlt (HT.put hok (VR.undef ρ)) H
        refine ⟨ρ2, a2, w2, hs2, HT2, ?_, H2, hrr, hk2, hwn, .head hstep hst⟩
        rw [hd2]; cases o.dst <;> rfl
    · cases hf

end Go.Am

/-
  The abstract machine: a region that draws its order.
-/
namespace Go.Am
open Go Go.RowKit

variable {P : Program} {ρ : Ren} {w0 w : World}

/-- The states of a region's operations in the order of the text. -/
structure Canon (P : Program) (ops : Array Oper) (T : Nat → Tmps) (Hh : Nat → AHeap) (V : Nat → Value) : Prop where
  dst : ∀ (k : Nat) (o : Oper), ops[k]? = some o → okDst (T k) o.dst = true
  one : ∀ (k : Nat) (o : Oper), ops[k]? = some o → canonOne P ops o (T k) (Hh k) = some (V k, Hh (k + 1))
  put : ∀ (k : Nat) (o : Oper), ops[k]? = some o → T (k + 1) = putT (T k) o.dst (V k)

theorem canon_states (ops : Array Oper) : ∀ (l : List Oper) (n : Nat) (tmps tmps' : Tmps) (h h' : AHeap), canon P ops l tmps h = some (tmps', h') → l = ops.toList.drop n → n ≤ ops.size →
    ∃ (T : Nat → Tmps) (Hh : Nat → AHeap) (V : Nat → Value), T n = tmps ∧ Hh n = h ∧ T ops.size = tmps' ∧ Hh ops.size = h' ∧
      ∀ (k : Nat) (o : Oper), n ≤ k → ops[k]? = some o → okDst (T k) o.dst = true ∧ canonOne P ops o (T k) (Hh k) = some (V k, Hh (k + 1)) ∧ T (k + 1) = putT (T k) o.dst (V k) := by
  intro l
  induction l with
  | nil =>
    intro n tmps tmps' h h' hc hl hn
    simp [canon] at hc
    obtain ⟨rfl, rfl⟩ := hc
    have hlen : ops.toList.length ≤ n := List.drop_eq_nil_iff.1 hl.symm
    have hlen' : ops.size ≤ n := by simpa using hlen
    have : n = ops.size := by omega
    subst this
    exact ⟨fun _ => tmps, fun _ => h, fun _ => undef, rfl, rfl, rfl, rfl, fun k o hk ho => by
      have := (Array.getElem?_eq_some_iff.1 ho).1; omega⟩
  | cons o l ih =>
    intro n tmps tmps' h h' hc hl hn
    obtain ⟨hlt, ho, hrest⟩ := drop_cons hl.symm
    simp only [canon] at hc
    split at hc
    · rename_i hd
      split at hc
      · rename_i v h1 h1c
        obtain ⟨T, Hh, V, e1, e2, e3, e4, e5⟩ := ih (n + 1) _ _ _ _ hc hrest hlt
        refine ⟨fun k => if k = n then tmps else T k, fun k => if k = n then h else Hh k, fun k => if k = n then v else V k, by simp, by simp, ?_, ?_, fun k o' hk ho' => ?_⟩
        · have : ops.size ≠ n := by omega
          simp [this, e3]
        · have : ops.size ≠ n := by omega
          simp [this, e4]
        · by_cases hkn : k = n
          · subst hkn
            rw [ho] at ho'
            cases ho'
            simp [hd, h1c, e1, e2]
          · have h2 : k + 1 ≠ n := by omega
            simp only [hkn, h2, if_false]
            exact e5 k o' (by omega) ho'
      · cases hc
    · cases hc

theorem okDst_lt {t : Tmps} {d : Nat} (h : okDst t (some d) = true) : d < t.size := by simpa [okDst, Nat.blt_eq] using h

variable {ops : Array Oper} {T : Nat → Tmps} {Hh : Nat → AHeap} {V : Nat → Value}

theorem Canon.size (C : Canon P ops T Hh V) : ∀ k, k ≤ ops.size → (T k).size = (T 0).size
  | 0, _ => rfl
  | k + 1, hk => by
    have hlt : k < ops.size := by omega
    rw [C.put k ops[k] (Array.getElem?_eq_getElem hlt)]
    rw [← C.size k (by omega)]
    cases ops[k].dst <;> rfl

/-- Who wrote a slot last. -/
theorem Canon.last (C : Canon P ops T Hh V) (t : Nat) : ∀ i, i ≤ ops.size →
    (∃ j o, j < i ∧ ops[j]? = some o ∧ o.dst = some t ∧ (∀ k o', j < k → k < i → ops[k]? = some o' → o'.dst ≠ some t) ∧ (T i).get t = V j) ∨
    ((∀ k o', k < i → ops[k]? = some o' → o'.dst ≠ some t) ∧ (T i).get t = (T 0).get t)
  | 0, _ => .inr ⟨fun k o' hk => absurd hk (by omega), rfl⟩
  | i + 1, hi => by
    have hlt : i < ops.size := by omega
    have ho : ops[i]? = some ops[i] := Array.getElem?_eq_getElem hlt
    have hput := C.put i ops[i] ho
    have hok := C.dst i ops[i] ho
    by_cases hd : ops[i].dst = some t
    · refine .inl ⟨i, ops[i], by omega, ho, hd, fun k o' h1 h2 => by omega, ?_⟩
      rw [hput, hd]
      simp only [putT]
      rw [Tmps.get_set, if_pos rfl]
    · have hget : (T (i + 1)).get t = (T i).get t := by
        rw [hput]
        cases he : (ops[i].dst : Option Nat) with
        | none => rfl
        | some d =>
          simp only [putT]
          rw [Tmps.get_set, if_neg]
          intro e
          subst e
          exact hd he
      rcases C.last t i (by omega) with ⟨j, o, h1, h2, h3, h4, h5⟩ | ⟨h1, h2⟩
      · refine .inl ⟨j, o, by omega, h2, h3, fun k o' hk hk' hko => ?_, by rw [hget]; exact h5⟩
        by_cases hki : k = i
        · subst hki; rw [ho] at hko; cases hko; exact hd
        · exact h4 k o' hk (by omega) hko
      · refine .inr ⟨fun k o' hk hko => ?_, by rw [hget]; exact h2⟩
        by_cases hki : k = i
        · subst hki; rw [ho] at hko; cases hko; exact hd
        · exact h1 k o' (by omega) hko

theorem canonOne_quiet {o : Oper} {t : Tmps} {h h' : AHeap} {v : Value} (hc : canonOne P ops o t h = some (v, h')) (hq : quietOp o = true) : h' = h := by
  unfold canonOne at hc
  split at hc
  · split at hc
    · simp only [Option.map_eq_some_iff] at hc
      obtain ⟨u, _, he⟩ := hc
      cases he; rfl
    · cases hc
  · cases hc; rfl

/-- Between two places without an operation that writes the heap is one. -/
theorem Canon.heap (C : Canon P ops T Hh V) (i : Nat) : ∀ d, i + d ≤ ops.size → (∀ k o, i ≤ k → k < i + d → ops[k]? = some o → quietOp o = true) → Hh (i + d) = Hh i
  | 0, _, _ => rfl
  | d + 1, hd, hq => by
    have hlt : i + d < ops.size := by omega
    have ho : ops[i + d]? = some ops[i + d] := Array.getElem?_eq_getElem hlt
    have := canonOne_quiet (C.one (i + d) _ ho) (hq (i + d) _ (by omega) (by omega) ho)
    rw [show i + (d + 1) = i + d + 1 from by omega, this]
    exact C.heap i d (by omega) fun k o h1 h2 h3 => hq k o h1 (by omega) h3

theorem Canon.heap_eq (C : Canon P ops T Hh V) {i m : Nat} (hi : i ≤ ops.size) (hm : m ≤ ops.size) (hq : ∀ k o, ops[k]? = some o → quietOp o = false → (k < m ↔ k < i)) : Hh m = Hh i := by
  rcases Nat.le_total i m with h | h
  · obtain ⟨d, rfl⟩ := Nat.exists_eq_add_of_le h
    refine C.heap i d hm fun k o h1 h2 h3 => ?_
    cases hqk : quietOp o with
    | true => rfl
    | false => have := (hq k o h3 hqk).1 h2; omega
  · obtain ⟨d, rfl⟩ := Nat.exists_eq_add_of_le h
    refine (C.heap m d hi fun k o h1 h2 h3 => ?_).symm
    cases hqk : quietOp o with
    | true => rfl
    | false => have := (hq k o h3 hqk).2 h2; omega

/-! What must come before. -/

def predOf (acc : List Nat) (o : Oper) : Nat := o.after.toList.foldl (fun s e => bif Region.binds .any e then s ||| 2 ^ e.on ||| acc.getD e.on 0 else s) 0

theorem preds_eq (l : List Oper) : preds l = l.foldl (fun acc o => acc ++ [predOf acc o]) [] := rfl

theorem predsFrom_spec : ∀ (l : List Oper) (acc : List Nat), (l.foldl (fun acc o => acc ++ [predOf acc o]) acc).length = acc.length + l.length ∧
    (∀ j, j < acc.length → (l.foldl (fun acc o => acc ++ [predOf acc o]) acc)[j]? = acc[j]?) ∧
    (∀ j o, l[j]? = some o → (l.foldl (fun acc o => acc ++ [predOf acc o]) acc)[acc.length + j]? = some (predOf ((l.foldl (fun acc o => acc ++ [predOf acc o]) acc).take (acc.length + j)) o))
  | [], acc => ⟨by simp, fun _ _ => rfl, fun j o h => by simp at h⟩
  | o :: l, acc => by
    obtain ⟨h1, h2, h3⟩ := predsFrom_spec l (acc ++ [predOf acc o])
    simp only [List.foldl_cons]
    refine ⟨by rw [h1]; simp; omega, fun j hj => ?_, fun j o' ho' => ?_⟩
    · rw [h2 j (by simp; omega), List.getElem?_append_left hj]
    · cases j with
      | zero =>
        simp at ho'
        subst ho'
        have htk : (l.foldl (fun acc o => acc ++ [predOf acc o]) (acc ++ [predOf acc o])).take acc.length = acc := by
          apply List.ext_getElem?
          intro j
          by_cases hj : j < acc.length
          · rw [List.getElem?_take_of_lt hj, h2 j (by simp; omega), List.getElem?_append_left hj]
          · rw [List.getElem?_eq_none (by simp; omega), List.getElem?_eq_none (by omega)]
        rw [Nat.add_zero, h2 acc.length (by simp), htk]
        simp
      | succ j =>
        have := h3 j o' (by simpa using ho')
        simp only [List.length_append, List.length_singleton] at this
        rw [show acc.length + (j + 1) = acc.length + 1 + j from by omega]
        exact this

theorem preds_spec (l : List Oper) (j : Nat) (o : Oper) (ho : l[j]? = some o) : (preds l).getD j 0 = predOf ((preds l).take j) o := by
  have := (predsFrom_spec l []).2.2 j o ho
  simp only [List.length_nil, Nat.zero_add] at this
  rw [preds_eq, List.getD_eq_getElem?_getD, this]
  rfl

theorem predOf_bit (acc : List Nat) (i : Nat) : ∀ (es : List Edge) (s : Nat), (es.foldl (fun s e => bif Region.binds .any e then s ||| 2 ^ e.on ||| acc.getD e.on 0 else s) s).testBit i = true →
    s.testBit i = true ∨ ∃ e ∈ es, Region.binds .any e = true ∧ (i = e.on ∨ (acc.getD e.on 0).testBit i = true)
  | [], s, h => .inl h
  | e :: es, s, h => by
    simp only [List.foldl_cons] at h
    rcases predOf_bit acc i es _ h with h1 | ⟨e', he', h2⟩
    · cases hb : Region.binds .any e with
      | false => simp [hb] at h1; exact .inl h1
      | true =>
        simp only [hb, cond_true, Nat.testBit_or, Bool.or_eq_true] at h1
        rcases h1 with (h1 | h1) | h1
        · exact .inl h1
        · refine .inr ⟨e, by simp, hb, .inl ?_⟩
          rw [Nat.testBit_two_pow] at h1
          have := of_decide_eq_true h1
          exact this.symm
        · exact .inr ⟨e, by simp, hb, .inr h1⟩
    · exact .inr ⟨e', by simp [he'], h2⟩

/-- What is closed under the direct predecessors is closed under all. -/
theorem preds_closed (l : List Oper) (S : Nat → Prop) (hlt : ∀ j o, l[j]? = some o → ∀ e ∈ o.after.toList, Region.binds .any e = true → e.on < j)
    (hcl : ∀ j o, l[j]? = some o → S j → ∀ e ∈ o.after.toList, Region.binds .any e = true → S e.on) :
    ∀ (j : Nat) (o : Oper), l[j]? = some o → (∀ e ∈ o.after.toList, Region.binds .any e = true → S e.on) → ∀ i, ((preds l).getD j 0).testBit i = true → S i := by
  intro j
  induction j using Nat.strongRecOn with
  | _ j ih =>
    intro o ho hd i hi
    rw [preds_spec l j o ho] at hi
    rcases predOf_bit _ i o.after.toList 0 hi with h | ⟨e, he, hb, h⟩
    · simp at h
    · have hej := hlt j o ho e he hb
      rcases h with rfl | h
      · exact hd e he hb
      · have hlen : e.on < l.length := by have := (List.getElem?_eq_some_iff.1 ho).1; omega
        have hoe : l[e.on]? = some l[e.on] := List.getElem?_eq_getElem hlen
        refine ih e.on hej l[e.on] hoe (hcl e.on _ hoe (hd e he hb)) i ?_
        rw [← h]
        congr 1
        rw [List.getD_eq_getElem?_getD, List.getD_eq_getElem?_getD, List.getElem?_take_of_lt hej]

end Go.Am

/-
  The abstract machine: a region that draws its order ends, in whatever order, as in the order of the text.
-/
namespace Go.Am
open Go Go.RowKit

variable {P : Program} {ρ : Ren} {w0 w : World} {ops : Array Oper} {T : Nat → Tmps} {Hh : Nat → AHeap} {V : Nat → Value}

structure ROk (ops : Array Oper) : Prop where
  lt : ∀ (j : Nat) (o : Oper), ops[j]? = some o → ∀ e ∈ o.after.toList, Region.binds .any e = true → e.on < j
  pair : ∀ (i j : Nat) (oi oj : Oper), i < j → ops[i]? = some oi → ops[j]? = some oj → pairOk ops (preds ops.toList) i j oi oj = true

theorem regionOk_spec (h : regionOk ops = true) : ROk ops := by
  unfold regionOk at h
  have key : ∀ (j : Nat) (o : Oper), ops[j]? = some o → (o, j) ∈ ops.toList.zipIdx := fun j o ho => by
    rw [List.mem_zipIdx_iff_getElem?]
    simpa using ho
  have h' := List.all_eq_true.1 h
  constructor
  · intro j o ho e he hb
    have := h' _ (key j o ho)
    simp only [Bool.and_eq_true] at this
    have := List.all_eq_true.1 this.1.1 e he
    simp only [Bool.or_eq_true, Bool.not_eq_true', hb] at this
    rcases this with h | h
    · cases h
    · simpa [Nat.blt_eq] using h
  · intro i j oi oj hij hoi hoj
    have := h' _ (key j oj hoj)
    simp only [Bool.and_eq_true] at this
    have := List.all_eq_true.1 this.2 _ (key i oi hoi)
    have hb : Nat.blt i j = true := by simpa [Nat.blt_eq] using hij
    simpa [hb] using this

theorem pairOk_spec {pr : List Nat} {i j : Nat} {oi oj : Oper} (h : pairOk ops pr i j oi oj = true) : (pr.getD j 0).testBit i = true ∨
    ((∀ d, oi.dst = some d → d ∉ looks ops oj ∧ oj.dst ≠ some d) ∧ (∀ d, oj.dst = some d → d ∉ looks ops oi) ∧
      (quietOp oi = true ∧ quietOp oj = true ∨ quietOp oi = true ∧ isLoad oi = false ∨ quietOp oj = true ∧ isLoad oj = false)) := by
  unfold pairOk at h
  simp only [Bool.or_eq_true, Bool.and_eq_true, Bool.not_eq_true'] at h
  rcases h with h | ⟨⟨h1, h2⟩, h3⟩
  · exact .inl h
  · refine .inr ⟨fun d hd => ?_, fun d hd => ?_, ?_⟩
    · rw [hd] at h1
      simp only [Bool.and_eq_true, Bool.not_eq_true', bne_iff_ne, ne_eq] at h1
      exact ⟨fun hm => by rw [List.contains_iff_mem.2 hm] at h1; exact absurd h1.1 (by simp), h1.2⟩
    · rw [hd] at h2
      simp only [Bool.not_eq_true'] at h2
      exact fun hm => by rw [List.contains_iff_mem.2 hm] at h2; cases h2
    · rcases h3 with (h3 | h3) | h3
      · exact .inl h3
      · exact .inr (.inl h3)
      · exact .inr (.inr h3)

theorem apure_indep {ev : Operand → Value} {h h2 : AHeap} {o : Oper} (hl : isLoad o = false) : apure P ev h o = apure P ev h2 o := by
  unfold apure
  unfold isLoad at hl
  cases ho : o.op with
  | call c => obtain ⟨callee, args, ats⟩ := c; cases callee <;> rfl
  | load t a => simp [ho] at hl
  | slice t x lo hi mx => simp [ho] at hl
  | _ => rfl

structure DInv (P : Program) (ρ : Ren) (w0 : World) (ops : Array Oper) (T : Nat → Tmps) (Hh : Nat → AHeap) (V : Nat → Value) (listed : Array Bool) (a : Act) (w : World) : Prop where
  size : listed.size = ops.size
  closed : ∀ (j : Nat) (o : Oper), ops[j]? = some o → listed.getD j false = true → ∀ e ∈ o.after.toList, Region.binds .any e = true → listed.getD e.on false = true
  tsize : (T 0).size = a.tmps.size
  lastw : ∀ (j : Nat) (o : Oper) (t : Nat), ops[j]? = some o → listed.getD j false = true → o.dst = some t → (∀ (k : Nat) (o' : Oper), j < k → ops[k]? = some o' → listed.getD k false = true → o'.dst ≠ some t) →
    VR ρ (V j) (a.tmps.getD t undef)
  nowr : ∀ t : Nat, (∀ (k : Nat) (o' : Oper), ops[k]? = some o' → listed.getD k false = true → o'.dst ≠ some t) → VR ρ ((T 0).get t) (a.tmps.getD t undef)
  heap : ∃ m, m ≤ ops.size ∧ HR P ρ w0 (Hh m) w ∧ ∀ (k : Nat) (o : Oper), ops[k]? = some o → quietOp o = false → (listed.getD k false = true ↔ k < m)

theorem getD_set {listed : Array Bool} {i : Nat} (hi : i < listed.size) (k : Nat) : (listed.setIfInBounds i true).getD k false = if k = i then true else listed.getD k false := by
  by_cases hk : k = i
  · subst hk; simp [hi]
  · rw [if_neg hk]
    simp only [Array.getD_eq_getD_getElem?]
    rw [Array.getElem?_setIfInBounds_ne (by omega)]

variable {listed : Array Bool} {a : Act}

/-- One more operation, one that is ready. -/
theorem DInv.step (R : ROk ops) (C : Canon P ops T Hh V) (D : DInv P ρ w0 ops T Hh V listed a w) {i : Nat} {o : Oper} (ho : ops[i]? = some o) (hun : listed.getD i false = false)
    (hdir : ∀ e ∈ o.after.toList, Region.binds .any e = true → listed.getD e.on false = true) (b : Frame) (rest : List Nat) (todo : List Item) (cs : List Frame) :
    ∃ ρ' a' w', Sub ρ ρ' ∧ a'.defers = a.defers ∧ DInv P ρ' w0 ops T Hh V (listed.setIfInBounds i true) a' w' ∧
      Steps P (lone (b.atR a (.inRegion ops (i :: rest) :: todo)) cs w) (lone (b.atR a' (.inRegion ops rest :: todo)) cs w') := by
  have hi : i < ops.size := (Array.getElem?_eq_some_iff.1 ho).1
  have hlt := R.lt
  -- what is listed is closed under all that must come before
  have clo : ∀ (j : Nat) (oj : Oper), ops[j]? = some oj → (∀ e ∈ oj.after.toList, Region.binds .any e = true → listed.getD e.on false = true) →
      ∀ k, ((preds ops.toList).getD j 0).testBit k = true → listed.getD k false = true := fun j oj hoj hd k hk =>
    preds_closed ops.toList (fun k => listed.getD k false = true) (fun j o h => hlt j o (by simpa using h)) (fun j o h hs => D.closed j o (by simpa using h) hs) j oj (by simpa using hoj) hd k hk
  have before : ∀ (k : Nat), ((preds ops.toList).getD i 0).testBit k = true → listed.getD k false = true := clo i o ho hdir
  have behind : ∀ (k : Nat) (ok : Oper), ops[k]? = some ok → ((preds ops.toList).getD k 0).testBit i = true → listed.getD k false = false := fun k ok hok hb => by
    cases hl : listed.getD k false with
    | false => rfl
    | true => have := clo k ok hok (D.closed k ok hok hl) i hb; rw [hun] at this; cases this
  -- who writes what we look at
  have writers : ∀ (t : Nat), t ∈ looks ops o → ∀ (k : Nat) (ok : Oper), ops[k]? = some ok → k ≠ i → ok.dst = some t → (listed.getD k false = true ↔ k < i) := by
    intro t ht k ok hok hki hd
    rcases Nat.lt_or_gt_of_ne hki with h | h
    · refine ⟨fun _ => h, fun _ => ?_⟩
      rcases pairOk_spec (R.pair k i ok o h hok ho) with hb | ⟨h1, _, _⟩
      · exact before k hb
      · exact absurd ht (h1 t hd).1
    · refine ⟨fun hl => ?_, fun hlt => by omega⟩
      rcases pairOk_spec (R.pair i k o ok h ho hok) with hb | ⟨_, h2, _⟩
      · rw [behind k ok hok hb] at hl; cases hl
      · exact absurd ht (h2 t hd)
  have look : ∀ (t : Nat), t ∈ looks ops o → VR ρ ((T i).get t) (a.tmps.getD t undef) := by
    intro t ht
    rcases C.last t i (by omega) with ⟨j, oj, h1, h2, h3, h4, h5⟩ | ⟨h1, h2⟩
    · rw [h5]
      refine D.lastw j oj t h2 ((writers t ht j oj h2 (by omega) h3).2 h1) h3 fun k ok hk hok hl hd => ?_
      by_cases hki : k = i
      · subst hki; rw [hun] at hl; cases hl
      · exact h4 k ok hk ((writers t ht k ok hok hki hd).1 hl) hok hd
    · rw [h2]
      refine D.nowr t fun k ok hok hl hd => ?_
      by_cases hki : k = i
      · subst hki; rw [hun] at hl; cases hl
      · exact h1 k ok ((writers t ht k ok hok hki hd).1 hl) hok hd
  obtain ⟨m, hm, Hm, hwm⟩ := D.heap
  have heapEq : (quietOp o = false ∨ isLoad o = true) → Hh m = Hh i := by
    intro hq
    refine C.heap_eq (by omega) hm fun k ok hok hqk => ?_
    rw [← hwm k ok hok hqk]
    by_cases hki : k = i
    · subst hki; rw [hun]; simp
    · rcases Nat.lt_or_gt_of_ne hki with h | h
      · refine ⟨fun _ => h, fun _ => ?_⟩
        rcases pairOk_spec (R.pair k i ok o h hok ho) with hb | ⟨_, _, h3⟩
        · exact before k hb
        · rw [hqk] at h3
          rcases h3 with h3 | h3 | h3
          · cases h3.1
          · cases h3.1
          · rcases hq with hq | hq
            · rw [hq] at h3; cases h3.1
            · rw [hq] at h3; cases h3.2
      · refine ⟨fun hl => ?_, fun hlt => by omega⟩
        rcases pairOk_spec (R.pair i k o ok h ho hok) with hb | ⟨_, _, h3⟩
        · rw [behind k ok hok hb] at hl; cases hl
        · rw [hqk] at h3
          rcases h3 with h3 | h3 | h3
          · cases h3.2
          · rcases hq with hq | hq
            · rw [hq] at h3; cases h3.1
            · rw [hq] at h3; cases h3.2
          · cases h3.1
  -- the operation itself: what it yields, and the new state
  have core : ∃ ρ' v' w', Sub ρ ρ' ∧ VR ρ' (V i) v' ∧ (∃ m', m' ≤ ops.size ∧ HR P ρ' w0 (Hh m') w' ∧ ∀ (k : Nat) (ok : Oper), ops[k]? = some ok → quietOp ok = false → ((listed.setIfInBounds i true).getD k false = true ↔ k < m')) ∧
      Steps P (lone (b.atR a (.inRegion ops (i :: rest) :: todo)) cs w) (lone (b.atR (a.put o.dst v') (.inRegion ops rest :: todo)) cs w') := by
    have hone := C.one i o ho
    have hsz := C.size i (by omega)
    have hwant : awanted ops (T i) o = Region.wanted o (yielded ops a.tmps) := by
      unfold awanted Region.wanted
      cases hg : o.guard with
      | none => rfl
      | some g =>
        obtain ⟨j, want⟩ := g
        simp only
        have : ayielded ops (T i) j = yielded ops a.tmps j := by
          unfold ayielded yielded
          have he : ops.toList[j]? = ops[j]? := by simp
          rw [he]
          cases hd : ((ops[j]?).bind (·.dst) : Option Nat) with
          | none => simp
          | some d =>
            have hmem : d ∈ looks ops o := by simp [looks, hg, hd]
            have hv := look d hmem
            simp only [Option.bind_some]
            by_cases hlt : d < (T i).size
            · have e1 : Nat.blt d (T i).size = true := by simpa [Nat.blt_eq] using hlt
              have e2 : a.tmps[d]? = some (a.tmps.getD d undef) := by
                have : d < a.tmps.size := by rw [← D.tsize, ← hsz]; exact hlt
                simp [this]
              rw [e2]
              simp only [e1, if_true]
              generalize (T i).get d = x at hv ⊢
              generalize a.tmps.getD d undef = y at hv ⊢
              cases hv <;> rfl
            · have e1 : Nat.blt d (T i).size = false := by
                cases e : Nat.blt d (T i).size with
                | false => rfl
                | true => exact absurd (by simpa [Nat.blt_eq] using e) hlt
              have e2 : a.tmps[d]? = none := by
                have : ¬ d < a.tmps.size := by rw [← D.tsize, ← hsz]; exact hlt
                simp [this]
              simp [e1, e2]
        rw [this]
    have listedQuiet : quietOp o = true → ∀ (k : Nat) (ok : Oper), ops[k]? = some ok → quietOp ok = false → ((listed.setIfInBounds i true).getD k false = true ↔ k < m) := by
      intro hq k ok hok hqk
      have hki : k ≠ i := fun e => by subst e; rw [ho] at hok; cases hok; rw [hq] at hqk; cases hqk
      rw [getD_set (by rw [D.size]; exact hi), if_neg hki]
      exact hwm k ok hok hqk
    unfold canonOne at hone
    split at hone
    · rename_i hw
      have hw' : Region.wanted o (yielded ops a.tmps) = true := by rw [← hwant]; exact hw
      split at hone
      · rename_i hok
        have hops : ∀ x ∈ o.op.operands.toList, VR ρ (aev (T i) x) (a.eval x) := by
          intro x hx
          have hall : o.op.operands.toList.all (okOperand P) = true := by
            unfold okOper at hok
            split at hok
            · cases hok
            · cases hok
            · exact hok
          have hokx := List.all_eq_true.1 hall x hx
          cases x with
          | tmp t =>
            refine look t ?_
            simp only [looks, List.mem_append, List.mem_filterMap]
            exact .inl ⟨.tmp t, hx, rfl⟩
          | const v => exact plainV_sim hokx
          | global g =>
            obtain ⟨p, hp, hb, hs⟩ := Hm.glob g (by simpa [okOperand, Nat.blt_eq] using hokx)
            have := VR.ptr (ρ := ρ) 0 hp
            rw [hb, hs] at this
            simpa [Act.eval, aev] using this
          | func g => exact .func _ _ _ _ _ _ (.func g) rfl (fun i x y h => by simp at h) rfl (fun i x y h => by simp at h)
        split at hone
        · rename_i hq
          simp only [Option.map_eq_some_iff] at hone
          obtain ⟨u, hu, he⟩ := hone
          have he1 : u = V i := congrArg Prod.fst he
          have he2 : Hh i = Hh (i + 1) := congrArg Prod.snd he
          subst he1
          have hum : apure P (aev (T i)) (Hh m) o = some (V i) := by
            cases hl : isLoad o with
            | true => rw [heapEq (.inr hl)]; exact hu
            | false => rw [apure_indep hl (h2 := Hh i)]; exact hu
          obtain ⟨v', h1, h2⟩ := apure_sim Hm hum hops
          exact ⟨ρ, v', w, Sub.refl ρ, h2, ⟨m, hm, Hm, listedQuiet hq⟩, .one (stepR_value ho hw' (okOper_defer hok) h1 (.inl rfl))⟩
        · rename_i hq
          have hq' : quietOp o = false := by simpa using hq
          split at hone
          · rename_i v h1 ha
            have he1 : v = V i := congrArg Prod.fst (Option.some.inj hone)
            have he2 : h1 = Hh (i + 1) := congrArg Prod.snd (Option.some.inj hone)
            subst he1
            rw [he2] at ha
            have hme := heapEq (.inl hq')
            rw [hme] at Hm
            obtain ⟨ρ', v', n, w', hr, hnx, hs, H', hv⟩ := aeff_value Hm ha hops
            refine ⟨ρ', v', w', hs, hv, ⟨i + 1, hi, H', fun k ok hok' hqk => ?_⟩, .one (stepR_value ho hw' (okOper_defer hok) hr hnx)⟩
            rw [getD_set (by rw [D.size]; exact hi)]
            by_cases hki : k = i
            · subst hki; simp
            · rw [if_neg hki]
              have h1 := hwm k ok hok' hqk
              -- what is listed of the writers is what stands before
              have h2 : (listed.getD k false = true ↔ k < i) := by
                rcases Nat.lt_or_gt_of_ne hki with h | h
                · refine ⟨fun _ => h, fun _ => ?_⟩
                  rcases pairOk_spec (R.pair k i ok o h hok' ho) with hb | ⟨_, _, h3⟩
                  · exact before k hb
                  · rw [hqk, hq'] at h3
                    rcases h3 with h3 | h3 | h3 <;> cases h3.1
                · refine ⟨fun hl => ?_, fun hlt => by omega⟩
                  rcases pairOk_spec (R.pair i k o ok h ho hok') with hb | ⟨_, _, h3⟩
                  · rw [behind k ok hok' hb] at hl; cases hl
                  · rw [hqk, hq'] at h3
                    rcases h3 with h3 | h3 | h3 <;> cases h3.1
              rw [h2]; omega
          · cases hone
      · cases hone
    · rename_i hw
      have hw' : Region.wanted o (yielded ops a.tmps) = false := by rw [← hwant]; simpa using hw
      have he1 : undef = V i := congrArg Prod.fst (Option.some.inj hone)
      have he2 : Hh i = Hh (i + 1) := congrArg Prod.snd (Option.some.inj hone)
      have hstep := stepR_op_skip (P := P) (b := b) (a := a) (k := todo) (cs := cs) (w := w) (ops := ops) (i := i) (rest := rest) (by simp [ho, hw'])
      simp only [ho, Option.bind_some] at hstep
      cases hq : quietOp o with
      | true => exact ⟨ρ, undef, w, Sub.refl ρ, by rw [← he1]; exact VR.undef ρ, ⟨m, hm, Hm, listedQuiet hq⟩, .one hstep⟩
      | false =>
        have hme := heapEq (.inl hq)
        rw [hme, he2] at Hm
        refine ⟨ρ, undef, w, Sub.refl ρ, by rw [← he1]; exact VR.undef ρ, ⟨i + 1, hi, Hm, fun k ok hok' hqk => ?_⟩, .one hstep⟩
        rw [getD_set (by rw [D.size]; exact hi)]
        by_cases hki : k = i
        · subst hki; simp
        · rw [if_neg hki]
          have h2 : (listed.getD k false = true ↔ k < i) := by
            rcases Nat.lt_or_gt_of_ne hki with h | h
            · refine ⟨fun _ => h, fun _ => ?_⟩
              rcases pairOk_spec (R.pair k i ok o h hok' ho) with hb | ⟨_, _, h3⟩
              · exact before k hb
              · rw [hqk, hq] at h3
                rcases h3 with h3 | h3 | h3 <;> cases h3.1
            · refine ⟨fun hl => ?_, fun hlt => by omega⟩
              rcases pairOk_spec (R.pair i k o ok h ho hok') with hb | ⟨_, _, h3⟩
              · rw [behind k ok hok' hb] at hl; cases hl
              · rw [hqk, hq] at h3
                rcases h3 with h3 | h3 | h3 <;> cases h3.1
          rw [h2]; omega
  obtain ⟨ρ', v', w', hs, hv, hheap, hst⟩ := core
  have hil : i < listed.size := by rw [D.size]; exact hi
  have hdst := C.dst i o ho
  refine ⟨ρ', a.put o.dst v', w', hs, by cases o.dst <;> rfl, ⟨by simp [D.size], fun j oj hoj hl e he hb => ?_, ?_, fun j oj t hoj hl hd hlater => ?_, fun t hnone => ?_, hheap⟩, hst⟩
  · rw [getD_set hil]
    split
    · rfl
    · rw [getD_set hil] at hl
      by_cases hji : j = i
      · subst hji; rw [ho] at hoj; cases hoj; exact hdir e he hb
      · rw [if_neg hji] at hl; exact D.closed j oj hoj hl e he hb
  · rw [D.tsize]; cases o.dst <;> simp [Act.put]
  · by_cases hji : j = i
    · subst hji
      rw [ho] at hoj; cases hoj
      rw [hd] at hdst ⊢
      have hlt : t < a.tmps.size := by rw [← D.tsize, ← C.size j (by omega)]; exact okDst_lt hdst
      simpa [Act.put, hlt] using hv
    · rw [getD_set hil, if_neg hji] at hl
      by_cases hdi : o.dst = some t
      · -- the new writer is not behind the last one
        exfalso
        rcases Nat.lt_or_gt_of_ne hji with h | h
        · exact hlater i o h ho (by rw [getD_set hil, if_pos rfl]) hdi
        · rcases pairOk_spec (R.pair i j o oj h ho hoj) with hb | ⟨h1, _, _⟩
          · rw [behind j oj hoj hb] at hl; cases hl
          · exact (h1 t hdi).2 hd
      · have hget : (a.put o.dst v').tmps.getD t undef = a.tmps.getD t undef := by
          cases he : (o.dst : Option Nat) with
          | none => rfl
          | some d =>
            have : d ≠ t := fun e => hdi (by rw [he, e])
            simp only [Act.put, Array.getD_eq_getD_getElem?]
            rw [Array.getElem?_setIfInBounds_ne this]
        rw [hget]
        refine (D.lastw j oj t hoj hl hd fun k ok hk hok hlk => ?_).mono hs
        exact hlater k ok hk hok (by rw [getD_set hil]; split <;> first | rfl | exact hlk)
  · have hdi : o.dst ≠ some t := hnone i o ho (by rw [getD_set hil, if_pos rfl])
    have hget : (a.put o.dst v').tmps.getD t undef = a.tmps.getD t undef := by
      cases he : (o.dst : Option Nat) with
      | none => rfl
      | some d =>
        have : d ≠ t := fun e => hdi (by rw [he, e])
        simp only [Act.put, Array.getD_eq_getD_getElem?]
        rw [Array.getElem?_setIfInBounds_ne this]
    rw [hget]
    refine (D.nowr t fun k ok hok hlk => hnone k ok hok (by rw [getD_set hil]; split <;> first | rfl | exact hlk)).mono hs

end Go.Am

/-
  The abstract machine: the whole of a region that draws its order.
-/
namespace Go.Am
open Go Go.RowKit

variable {P : Program} {w0 : World} {ops : Array Oper} {T : Nat → Tmps} {Hh : Nat → AHeap} {V : Nat → Value}

theorem countP_less {p q : Nat → Bool} {i : Nat} (hpi : p i = true) (hqi : q i = false) (hpq : ∀ j, q j = true → p j = true) : ∀ l : List Nat, i ∈ l → l.countP q < l.countP p
  | [], h => by cases h
  | j :: l, h => by
    have hle : ∀ l : List Nat, l.countP q ≤ l.countP p := fun l => List.countP_mono_left (fun j _ hj => hpq j hj)
    simp only [List.countP_cons]
    by_cases hji : j = i
    · subst hji
      have := hle l
      simp [hpi, hqi]
      omega
    · have hmem : i ∈ l := by
        cases h with
        | head => exact absurd rfl hji
        | tail _ h => exact h
      have := countP_less hpi hqi hpq l hmem
      by_cases hq : q j = true
      · simp [hq, hpq j hq]; exact this
      · simp only [hq]
        by_cases hp : p j = true <;> simp [hp] <;> omega

def left (n : Nat) (listed : Array Bool) : Nat := (List.range n).countP fun i => !listed.getD i false

theorem go_sim (R : ROk ops) (C : Canon P ops T Hh V) (b : Frame) (todo : List Item) (cs : List Frame) :
    ∀ (fuel t : Nat) (ρ : Ren) (listed : Array Bool) (a : Act) (w : World), DInv P ρ w0 ops T Hh V listed a w → left ops.size listed ≤ fuel →
    ∃ ρ' a' w' listed', Sub ρ ρ' ∧ a'.defers = a.defers ∧ DInv P ρ' w0 ops T Hh V listed' a' w' ∧ (∀ i, i < ops.size → listed'.getD i false = true) ∧
      Steps P (lone (b.atR a (.inRegion ops (Region.linearise.go .any ops fuel t listed []) :: todo)) cs w) (lone (b.atR a' (.inRegion ops [] :: todo)) cs w') := by
  intro fuel
  induction fuel with
  | zero =>
    intro t ρ listed a w D hl
    refine ⟨ρ, a, w, listed, Sub.refl ρ, rfl, D, fun i hi => ?_, Steps.refl _ _⟩
    cases hli : listed.getD i false with
    | true => rfl
    | false =>
      have : 0 < left ops.size listed := List.countP_pos_iff.2 ⟨i, List.mem_range.2 hi, by rw [hli]; rfl⟩
      omega
  | succ fuel ih =>
    intro t ρ listed a w D hl
    simp only [Region.linearise.go]
    change ∃ ρ' a' w' listed', Sub ρ ρ' ∧ a'.defers = a.defers ∧ DInv P ρ' w0 ops T Hh V listed' a' w' ∧ (∀ i, i < ops.size → listed'.getD i false = true) ∧
      Steps P (lone (b.atR a (.inRegion ops (match (Region.ready .any ops listed)[t % (Region.ready .any ops listed).length]? with
        | some i => Region.linearise.go .any ops fuel (t / (Region.ready .any ops listed).length) (listed.setIfInBounds i true) [i]
        | none => [].reverse) :: todo)) cs w) (lone (b.atR a' (.inRegion ops [] :: todo)) cs w')
    cases hr : (Region.ready .any ops listed)[t % (Region.ready .any ops listed).length]? with
    | none =>
      have hnil : Region.ready .any ops listed = [] := by
        cases he : Region.ready .any ops listed with
        | nil => rfl
        | cons x xs =>
          rw [he] at hr
          have hlt : t % (x :: xs).length < (x :: xs).length := Nat.mod_lt _ (by simp)
          rw [List.getElem?_eq_getElem hlt] at hr
          cases hr
      refine ⟨ρ, a, w, listed, Sub.refl ρ, rfl, D, ?_, Steps.refl _ _⟩
      -- what is left, the first of it, would be ready
      intro i
      induction i using Nat.strongRecOn with
      | _ i ihi =>
        intro hi
        cases hli : listed.getD i false with
        | true => rfl
        | false =>
          exfalso
          have ho : ops[i]? = some ops[i] := Array.getElem?_eq_getElem hi
          have hmem : i ∈ Region.ready .any ops listed := by
            refine mem_ready.2 ⟨?_, ops[i], ho, fun e he hb => ?_⟩
            · have : i < listed.size := by rw [D.size]; exact hi
              simp only [Array.getD_eq_getD_getElem?, Array.getElem?_eq_getElem this] at hli ⊢
              exact hli
            · have := R.lt i _ ho e (by simpa using he) hb
              exact ihi e.on this (by omega)
          rw [hnil] at hmem
          cases hmem
    | some i =>
      have hmem : i ∈ Region.ready .any ops listed := List.mem_of_getElem? hr
      obtain ⟨hun, o, ho, hall⟩ := mem_ready.1 hmem
      have hi : i < ops.size := (Array.getElem?_eq_some_iff.1 ho).1
      have hun' : listed.getD i false = false := by
        rcases Nat.lt_or_ge i listed.size with h' | h'
        · simp [h'] at hun ⊢; exact hun
        · simp [Array.getElem?_eq_none h'] at hun
      simp only []
      rw [linearise_go_acc, List.reverse_singleton, List.singleton_append]
      obtain ⟨ρ1, a1, w1, hs1, hd1, D1, hst1⟩ := D.step R C ho hun' (fun e he hb => hall e (by simpa using he) hb) b (Region.linearise.go .any ops fuel (t / (Region.ready .any ops listed).length) (listed.setIfInBounds i true) []) todo cs
      have hless : left ops.size (listed.setIfInBounds i true) < left ops.size listed := by
        refine countP_less (i := i) (by rw [hun']; rfl) ?_ (fun j hj => ?_) _ (List.mem_range.2 hi)
        · rw [getD_set (by rw [D.size]; exact hi), if_pos rfl]; rfl
        · rw [getD_set (by rw [D.size]; exact hi)] at hj
          split at hj
          · cases hj
          · exact hj
      obtain ⟨ρ2, a2, w2, l2, hs2, hd2, D2, hall2, hst2⟩ := ih (t / (Region.ready .any ops listed).length) ρ1 (listed.setIfInBounds i true) a1 w1 D1 (by omega)
      exact ⟨ρ2, a2, w2, l2, hs1.trans hs2, hd2.trans hd1, D2, hall2, hst1.trans hst2⟩

theorem draw_sim (hok : regionOk ops = true) (hm : P.follows .mixedOrders = true) {ρ : Ren} {h h' : AHeap} {w : World} {tmps tmps' : Tmps} {a : Act} (hc : canon P ops ops.toList tmps h = some (tmps', h'))
    (HT : TR ρ tmps a.tmps) (H : HR P ρ w0 h w) (id : Nat) (b : Frame) (todo : List Item) (cs : List Frame) :
    ∃ ρ' a' w', Sub ρ ρ' ∧ TR ρ' tmps' a'.tmps ∧ a'.defers = a.defers ∧ HR P ρ' w0 h' w' ∧
      Steps P (lone (b.atR a (.code (.region id ops true) :: todo)) cs w) (lone (b.atR a' todo) cs w') := by
  obtain ⟨T, Hh, V, e1, e2, e3, e4, e5⟩ := canon_states ops ops.toList 0 tmps tmps' h h' hc (by simp) (by omega)
  have C : Canon P ops T Hh V := ⟨fun k o ho => (e5 k o (by omega) ho).1, fun k o ho => (e5 k o (by omega) ho).2.1, fun k o ho => (e5 k o (by omega) ho).2.2⟩
  have hno : ∀ k, (Array.replicate ops.size false).getD k false = false := fun k => by
    rcases Nat.lt_or_ge k ops.size with h | h <;> simp [h]
  have D : DInv P ρ w0 ops T Hh V (Array.replicate ops.size false) a { w with drawn := w.drawn + 1 } :=
    ⟨by simp, fun j o _ hl => (by rw [hno] at hl; cases hl), by rw [e1]; exact HT.1, fun j o t _ hl => (by rw [hno] at hl; cases hl), fun t _ => (by rw [e1]; exact HT.2 t),
      0, by omega, by rw [e2]; exact H.drew _, fun k o _ _ => by rw [hno]; simp⟩
  have hl : left ops.size (Array.replicate ops.size false) ≤ ops.size := by
    refine Nat.le_trans List.countP_le_length ?_
    simp
  obtain ⟨ρ', a', w', l', hs, hd, D', hall, hst⟩ := go_sim (regionOk_spec hok) C b todo cs ops.size (w.tape w.drawn (.order b.fn id)) ρ _ a _ D hl
  refine ⟨ρ', a', w', hs, ?_, hd, ?_, ?_⟩
  · refine ⟨?_, fun t => ?_⟩
    · rw [← e3, C.size ops.size (by omega)]; exact D'.tsize
    · rw [← e3]
      rcases C.last t ops.size (by omega) with ⟨j, oj, h1, h2, h3, h4, h5⟩ | ⟨h1, h2⟩
      · rw [h5]
        exact D'.lastw j oj t h2 (hall j h1) h3 fun k ok hk hok _ hdk => h4 k ok hk (Array.getElem?_eq_some_iff.1 hok).1 hok hdk
      · rw [h2]
        exact D'.nowr t fun k ok hok _ hdk => h1 k ok (Array.getElem?_eq_some_iff.1 hok).1 hok hdk
  · obtain ⟨m, hm', Hm, hwm⟩ := D'.heap
    have : Hh m = Hh ops.size := C.heap_eq (by omega) hm' fun k o hok hq => by
      have hk := (Array.getElem?_eq_some_iff.1 hok).1
      have := (hwm k o hok hq).1 (hall k hk)
      exact ⟨fun _ => hk, fun _ => this⟩
    rw [← e4, ← this]; exact Hm
  · refine .head stepR_region_draw ?_
    simp only [Region.schedule, hm, Bool.true_or, if_true]
    exact hst.trans (.one stepR_region_end)

end Go.Am

