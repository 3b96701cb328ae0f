/-
  A plain machine for a part of the model's code: no tape, no order, no capacity. Definitions alone.
-/
import Derived.Below
set_option linter.unusedSimpArgs false
set_option linter.unusedVariables false
namespace Go.Proofs.Ytfcglkajekohiaa.AM
open Go

/-- A block of the plain machine: its cells, the size of an element (0: a variable), whether it is only read. -/
structure AObj where
  cells : List Value
  es : Nat
  ro : Bool

abbrev AHeap := List (Nat × Option AObj)

def find : AHeap → Nat → Option (Option AObj)
  | [], _ => none
  | (k, o) :: t, i => if k = i then some o else find t i

def get (H : AHeap) (i : Nat) : Option AObj := (find H i).getD none

inductive Opnd where
  | tmp (t : Nat)
  | const (v : Value)

/-- What a field of a struct that is compared may be. -/
inductive FK where
  | int | bool | str | self

inductive AOp where
  | mov (x : Opnd)
  | pick (c a b : Opnd)
  | new (cells : List Value)
  | box (x : Opnd)
  | build (zero : List Value) (parts : List (Nat × Nat × Opnd))
  | arr (es : Nat) (zero : List Value) (len : Nat) (parts : List (Nat × Nat × Opnd))
  | load (agg : Bool) (n : Nat) (a : Opnd)
  | store (n : Nat) (a v : Opnd)
  | nilChk (x : Opnd)
  | bin (op : BinOp) (eqAgg : Option (List FK)) (x y : Opnd)
  | un (op : UnOp) (x : Opnd)
  | convInt (k : IntKind) (x : Opnd)
  | convStr (x : Opnd)
  | convS2B (x : Opnd)
  | convB2S (x : Opnd)
  | mkSlice (es : Nat) (bytes : Nat) (zero : List Value) (len cap : Opnd)
  | sliceS (x : Opnd) (lo hi : Option Opnd)
  | sliceA (es : Nat) (x : Opnd) (lo hi : Option Opnd)
  | fieldAddr (off : Nat) (x : Opnd)
  | field (agg : Bool) (off n : Nat) (x : Opnd)
  | idxAddr (es : Nat) (x i : Opnd)
  | idxStr (x i : Opnd)
  | extract (i : Nat) (x : Opnd)
  | len (str : Bool) (x : Opnd)
  | append (es bytes : Nat) (zero : List Value) (s x : Opnd)
  | minmax (mx : Bool) (x : Opnd) (r : List Opnd)
  | call (f : Nat) (args : List Opnd)

structure AOper where
  dst : Option Nat
  op : AOp
  guard : Option (Nat × Bool)

inductive AC where
  | skip
  | ops (l : List AOper)
  | draw (l : List (AOper × List Nat))
  | seq (a b : AC)
  | cond (c : Opnd) (a b : AC)
  | block (id : Nat) (a : AC)
  | loop (a : AC)
  | exit (id : Nat)
  | ret

inductive RV where
  | tmp (t : Nat)
  | cell (agg : Bool) (n : Nat) (t : Nat)

structure AFn where
  code : AC
  ntmps : Nat
  results : List RV

abbrev TS := Nat → Value

def TS.set (ts : TS) (d : Nat) (v : Value) : TS := fun j => if j = d then v else ts j
def TS.put (ts : TS) (d : Option Nat) (v : Value) : TS :=
  match d with
  | some d => ts.set d v
  | none => ts

def ev (ts : TS) : Opnd → Value
  | .tmp t => ts t
  | .const v => v

/-! ### values -/

/-- May one cell hold it? -/
def isCell : Value → Bool
  | .agg _ | .tuple _ => false
  | _ => true

def eqCell : FK → Value → Value → Option Bool
  | .int, .int k a, .int k' b => if k = k' then some (a == b) else none
  | .bool, .bool a, .bool b => some (a == b)
  | .str, .string a, .string b => some (a == b)
  | _, _, _ => none

def eqCells : List FK → List Value → List Value → Option Bool
  | [], [], [] => some true
  | f :: fs, a :: x, b :: y =>
    match eqCell f a b with
    | some true => eqCells fs x y
    | some false => some false
    | none => none
  | _, _, _ => none

def cmpI (op : BinOp) (x y : Int) : Option Value :=
  match op with
  | .eql => some (.bool (x == y))
  | .neq => some (.bool (x != y))
  | .lss => some (.bool (x < y))
  | .leq => some (.bool (x ≤ y))
  | .gtr => some (.bool (x > y))
  | .geq => some (.bool (x ≥ y))
  | _ => none

def bitsI (op : BinOp) (k : IntKind) (x y : Int) : Option Value :=
  let a := BitVec.ofInt k.bits x
  let b := BitVec.ofInt k.bits y
  match op with
  | .and => some (.int k (k.wrap (a &&& b).toNat))
  | .or => some (.int k (k.wrap (a ||| b).toNat))
  | .xor => some (.int k (k.wrap (a ^^^ b).toNat))
  | .andNot => some (.int k (k.wrap (a &&& ~~~b).toNat))
  | _ => none

def arithI (op : BinOp) (k : IntKind) (x y : Int) : Option Value :=
  match op with
  | .add => some (.int k (k.wrap (x + y)))
  | .sub => some (.int k (k.wrap (x - y)))
  | .mul => some (.int k (k.wrap (x * y)))
  | .quo => if y = 0 then none else some (.int k (k.wrap (x.tdiv y)))
  | .rem => if y = 0 then none else some (.int k (x.tmod y))
  | .and | .or | .xor | .andNot => bitsI op k x y
  | _ => cmpI op x y

def shiftI (left : Bool) (k : IntKind) (x y : Int) : Option Value :=
  if y < 0 then none
  else if left then some (.int k (k.wrap (x * 2 ^ (min y.toNat k.bits)))) else some (.int k (x.fdiv (2 ^ (min y.toNat k.bits))))

def binS (op : BinOp) (x y : ByteArray) : Option Value :=
  match op with
  | .add => if ((x.size + y.size : Nat) : Int) > IntKind.i64.max then none else some (.string (x ++ y))
  | .eql => some (.bool (x.toList == y.toList))
  | .neq => some (.bool !(x.toList == y.toList))
  | .lss => some (.bool (Op.bytesLess x.toList y.toList))
  | .leq => some (.bool (Op.bytesLess x.toList y.toList || x.toList == y.toList))
  | .gtr => some (.bool !(Op.bytesLess x.toList y.toList || x.toList == y.toList))
  | .geq => some (.bool !(Op.bytesLess x.toList y.toList))
  | _ => none

def binA (op : BinOp) (eqAgg : Option (List FK)) : Value → Value → Option Value
  | .int k a, .int k' b =>
    match op with
    | .shl => shiftI true k a b
    | .shr => shiftI false k a b
    | _ => if k = k' then arithI op k a b else none
  | .string a, .string b => binS op a b
  | .bool a, .bool b =>
    match eqAgg, op with
    | some [.self], .eql => some (.bool (a == b))
    | some [.self], .neq => some (.bool !(a == b))
    | _, _ => none
  | .agg a, .agg b =>
    match eqAgg with
    | some fs =>
      match op with
      | .eql => (eqCells fs a.toList b.toList).map .bool
      | .neq => (eqCells fs a.toList b.toList).map fun r => .bool !r
      | _ => none
    | none => none
  | _, _ => none

def unA (op : UnOp) : Value → Option Value
  | .int k n =>
    match op with
    | .neg => some (.int k (k.wrap (0 - n)))
    | .xor => bitsI .xor k (if k.signed then -1 else k.max) n
    | _ => none
  | .bool b =>
    match op with
    | .not => some (.bool !b)
    | _ => none
  | _ => none

/-- The cells of a struct of which some fields are given. -/
def fillA : List Value → List (Nat × Nat × Value) → Option (List Value)
  | cs, [] => some cs
  | cs, (off, size, v) :: r =>
    let vs := v.cells.toList
    if vs.length = size ∧ off + size ≤ cs.length ∧ vs.all isCell = true then fillA (cs.take off ++ vs ++ cs.drop (off + size)) r else none

def numsOf : List Value → Option (List Int)
  | [] => some []
  | .int .u8 n :: r => (numsOf r).map fun b => n :: b
  | _ => none

def bytesOf (l : List Value) : Option ByteArray := (numsOf l).map fun ns => ⟨(ns.map fun n => UInt8.ofNat n.toNat).toArray⟩

def rows (zero : List Value) : Nat → List Value
  | 0 => []
  | n + 1 => zero ++ rows zero n

def optInt (dflt : Nat) : Option Value → Option Int
  | none => some dflt
  | some (.int _ n) => some n
  | _ => none

/-- The cells of a slice. -/
def sliceCells (H : AHeap) (es : Nat) : Value → Option (List Value)
  | .slice none _ _ => some []
  | .slice (some a) l _ =>
    if l = 0 then some [] else
    match get H a.block with
    | some o => if o.es = es ∧ a.off + l * es ≤ o.cells.length ∧ a.spot = none then some ((o.cells.drop a.off).take (l * es)) else none
    | none => none
  | _ => none

def isNil : Value → Bool
  | .slice none _ _ => true
  | _ => false

def lenA : Value → Option Nat
  | .slice _ l _ => some l
  | .string s => some s.size
  | _ => none

/-- What is added by append. -/
def addedCells (H : AHeap) (es : Nat) : Value → Option (List Value)
  | .string s => if es = 1 then some (s.data.toList.map fun b => .int .u8 b.toNat) else none
  | v => sliceCells H es v

/-- The block of a slice that is written to by append: it may be written, and is gone then. -/
def killOf (H : AHeap) (es : Nat) : Value → Option (List Nat)
  | .slice none _ _ => some []
  | .slice (some a) _ _ =>
    match get H a.block with
    | some o => if o.ro = false ∧ o.es = es ∧ a.spot = none then some [a.block] else none
    | none => none
  | _ => none

def minmaxA (mx : Bool) : Value → List Value → Option Value
  | .int k a, .int k' b :: r => if k = k' then minmaxA mx (.int k (if mx then (if b > a then b else a) else (if b < a then b else a))) r else none
  | .int k a, [] => some (.int k a)
  | _, _ => none

abbrev CallF := Nat → List Value → AHeap → Nat → Option (Value × AHeap × Nat)

def maxBytes : Nat := 2 ^ 32

def undefA : Value := .tuple #[]

/-- An operation: what it yields, what it writes, the next number. -/
def opA (cf : CallF) (ts : TS) (H : AHeap) (c : Nat) : AOp → Option (Value × AHeap × Nat)
  | .mov x => some (ev ts x, [], c)
  | .pick x a b =>
    match ev ts x with
    | .bool t => some (if t then ev ts a else ev ts b, [], c)
    | _ => none
  | .new cells => some (.pointer (some ⟨c, 0, none⟩), [(c, some ⟨cells, 0, false⟩)], c + 1)
  | .box x => if (ev ts x).cells.toList.all isCell = true then some (.pointer (some ⟨c, 0, none⟩), [(c, some ⟨(ev ts x).cells.toList, 0, false⟩)], c + 1) else none
  | .build zero parts =>
    match fillA zero (parts.map fun p => (p.1, p.2.1, ev ts p.2.2)) with
    | some cs => some (.agg cs.toArray, [], c)
    | none => none
  | .arr es zero len parts =>
    match fillA (rows zero len) (parts.map fun p => (p.1, p.2.1, ev ts p.2.2)) with
    | some cs => some (.slice (some ⟨c, 0, none⟩) len es, [(c, some ⟨cs, es, false⟩)], c + 1)
    | none => none
  | .load agg n a =>
    match ev ts a with
    | .pointer (some a) =>
      match get H a.block with
      | some o =>
        if a.spot = none ∧ a.off + n ≤ o.cells.length then
          if agg then some (.agg ((o.cells.drop a.off).take n).toArray, [], c)
          else match o.cells[a.off]? with
            | some v => some (v, [], c)
            | none => none
        else none
      | none => none
    | _ => none
  | .store n a v =>
    match ev ts a with
    | .pointer (some a) =>
      match get H a.block with
      | some o =>
        let vs := (ev ts v).cells.toList
        if a.spot = none ∧ o.ro = false ∧ a.off + n ≤ o.cells.length ∧ vs.length = n ∧ vs.all isCell = true then
          some (undefA, [(a.block, some { o with cells := o.cells.take a.off ++ vs ++ o.cells.drop (a.off + n) })], c)
        else none
      | none => none
    | _ => none
  | .nilChk x =>
    match ev ts x with
    | .pointer (some a) => some (.pointer (some a), [], c)
    | _ => none
  | .bin op e x y => (binA op e (ev ts x) (ev ts y)).map fun v => (v, [], c)
  | .un op x => (unA op (ev ts x)).map fun v => (v, [], c)
  | .convInt k x =>
    match ev ts x with
    | .int _ n => some (.int k (k.wrap n), [], c)
    | _ => none
  | .convStr x =>
    match ev ts x with
    | .string s => some (.string s, [], c)
    | _ => none
  | .convS2B x =>
    match ev ts x with
    | .string s => some (.slice (some ⟨c, 0, none⟩) s.size 1, [(c, some ⟨s.data.toList.map fun b => .int .u8 b.toNat, 1, false⟩)], c + 1)
    | _ => none
  | .convB2S x =>
    match (sliceCells H 1 (ev ts x)).bind bytesOf with
    | some s => some (.string s, [], c)
    | none => none
  | .mkSlice es bytes zero l cp =>
    match ev ts l, ev ts cp with
    | .int .i64 n, .int .i64 m =>
      if 0 ≤ n ∧ n = m ∧ n * bytes ≤ maxBytes ∧ n ≤ maxBytes then some (.slice (some ⟨c, 0, none⟩) n.toNat es, [(c, some ⟨rows zero n.toNat, es, false⟩)], c + 1) else none
    | _, _ => none
  | .sliceS x lo hi =>
    match ev ts x with
    | .string s =>
      match optInt 0 (lo.map (ev ts)), optInt s.size (hi.map (ev ts)) with
      | some l, some h => if 0 ≤ l ∧ l ≤ h ∧ h ≤ s.size then some (.string (s.extract l.toNat h.toNat), [], c) else none
      | _, _ => none
    | _ => none
  | .sliceA es x lo hi =>
    match ev ts x with
    | .slice a n e =>
      match optInt 0 (lo.map (ev ts)), optInt n (hi.map (ev ts)) with
      | some l, some h => if 0 ≤ l ∧ l ≤ h ∧ h ≤ n ∧ (a = none ∨ e = es) then some (.slice (a.map fun p => ⟨p.block, p.off + l.toNat * es, none⟩) (h.toNat - l.toNat) e, [], c) else none
      | _, _ => none
    | _ => none
  | .fieldAddr off x =>
    match ev ts x with
    | .pointer (some a) => some (.pointer (some ⟨a.block, a.off + off, none⟩), [], c)
    | _ => none
  | .field agg off n x =>
    match ev ts x with
    | .agg cs =>
      if off + n ≤ cs.size then
        if agg then some (.agg (cs.extract off (off + n)), [], c)
        else match cs[off]? with
          | some v => some (v, [], c)
          | none => none
      else none
    | _ => none
  | .idxAddr es x i =>
    match ev ts x, ev ts i with
    | .slice (some a) n _, .int _ i => if 0 ≤ i ∧ i < n then some (.pointer (some ⟨a.block, a.off + i.toNat * es, none⟩), [], c) else none
    | _, _ => none
  | .idxStr x i =>
    match ev ts x, ev ts i with
    | .string s, .int _ i =>
      match (if 0 ≤ i then s[i.toNat]? else none) with
      | some b => some (.int .u8 b.toNat, [], c)
      | none => none
    | _, _ => none
  | .extract i x =>
    match ev ts x with
    | .tuple vs =>
      match vs[i]? with
      | some v => some (v, [], c)
      | none => none
    | _ => none
  | .len str x =>
    match str, ev ts x with
    | true, .string s => some (.int .i64 s.size, [], c)
    | false, .slice _ n _ => some (.int .i64 n, [], c)
    | _, _ => none
  | .append es bytes zero s x =>
    match lenA (ev ts x), ev ts s with
    | some n, .slice b l cp =>
      if n = 0 then some (.slice b l cp, [], c) else
      match sliceCells H es (.slice b l cp), addedCells H es (ev ts x), killOf H es (.slice b l cp) with
      | some old, some new, some kill =>
        if (l + n) * bytes ≤ maxBytes ∧ l + n ≤ maxBytes ∧ zero.length = es ∧ new.length = n * es ∧ old.length = l * es then
          some (.slice (some ⟨c, 0, none⟩) (l + n) es, (c, some ⟨old ++ new, es, false⟩) :: kill.map (fun k => (k, none)), c + 1)
        else none
      | _, _, _ => none
    | _, _ => none
  | .minmax mx x r => (minmaxA mx (ev ts x) (r.map (ev ts))).map fun v => (v, [], c)
  | .call f args => cf f (args.map (ev ts)) H c

structure St where
  ts : TS
  u : AHeap
  c : Nat

def wanted (o : AOper) (ts : TS) : Bool :=
  match o.guard with
  | none => true
  | some (t, b) =>
    match ts t with
    | .bool r => r == b
    | _ => false

def stepA (cf : CallF) (H : AHeap) (o : AOper) (s : St) : Option St :=
  match wanted o s.ts with
  | false => some { s with ts := s.ts.put o.dst undefA }
  | true =>
    match opA cf s.ts (s.u ++ H) s.c o.op with
    | none => none
    | some (v, d, c') => some ⟨s.ts.put o.dst v, d ++ s.u, c'⟩

def opsA (cf : CallF) (H : AHeap) : List AOper → St → Option St
  | [], s => some s
  | o :: r, s =>
    match stepA cf H o s with
    | none => none
    | some s' => opsA cf H r s'

/-! ### operations whose order is left open -/

/-- What an operation reads: none: it may read all. -/
def reads (ts : TS) : AOp → Option (List Nat)
  | .load _ _ a | .store _ a _ =>
    match ev ts a with
    | .pointer (some a) => some [a.block]
    | _ => some []
  | .append .. | .convB2S _ | .call .. => none
  | _ => some []

def keys (d : AHeap) : List Nat := d.map (·.1)

/-- What an operation of such a region did: what it wrote, what it reads. -/
structure Did where
  d : AHeap
  r : Option (List Nat)
  lo : Nat
  hi : Nat

/-- Does this one leave alone what the other one looks at (what it made itself aside)? -/
def apart (a b : Did) : Bool :=
  (keys a.d).all fun k => (decide (a.lo ≤ k) && decide (k < a.hi)) || match b.r with
    | none => false
    | some l => !l.contains k

def predDeltas (ds : List Did) (ps : List Nat) : AHeap := (ps.map fun p => ((ds[p]?).map (·.d)).getD []).flatten

/-- Of the operations of a region ahead of this one: those that need not be ahead. -/
def others (n : Nat) (ps : List Nat) : List Nat := (List.range n).filter fun i => !ps.contains i

/-- One operation of such a region, behind those that were done so far. -/
def drawStep (cf : CallF) (H : AHeap) (o : AOper) (ps : List Nat) (s : St) (ds : List Did) : Option (Value × Did × Nat) :=
  match wanted o s.ts with
  | false => some (undefA, ⟨[], some [], s.c, s.c⟩, s.c)
  | true =>
    match opA cf s.ts (predDeltas ds ps ++ H) s.c o.op with
    | none => none
    | some (v, d, c') =>
      if (others ds.length ps).all (fun i => match ds[i]? with | some b => apart ⟨d, reads s.ts o.op, s.c, c'⟩ b && apart b ⟨d, reads s.ts o.op, s.c, c'⟩ | none => false) then
        some (v, ⟨d, reads s.ts o.op, s.c, c'⟩, c')
      else none

def drawA (cf : CallF) (H : AHeap) : List (AOper × List Nat) → St → List Did → Option St
  | [], s, _ => some s
  | (o, ps) :: r, s, ds =>
    match drawStep cf H o ps s ds with
    | none => none
    | some (v, me, c') => drawA cf H r ⟨s.ts.put o.dst v, me.d ++ s.u, c'⟩ (ds ++ [me])

inductive AExit where
  | normal
  | exit (id : Nat)
  | ret
  deriving DecidableEq

abbrev Res := Option (AExit × St)

def runCode (cf : CallF) (lf : AC → St → Res) (H : AHeap) : AC → St → Res
  | .skip, s => some (.normal, s)
  | .ops l, s => (opsA cf H l s).map fun s => (.normal, s)
  | .draw l, s => (drawA cf (s.u ++ H) l ⟨s.ts, [], s.c⟩ []).map fun r => (.normal, ⟨r.ts, r.u ++ s.u, r.c⟩)
  | .seq a b, s =>
    match runCode cf lf H a s with
    | some (.normal, s') => runCode cf lf H b s'
    | r => r
  | .cond x a b, s =>
    match ev s.ts x with
    | .bool t => if t then runCode cf lf H a s else runCode cf lf H b s
    | _ => none
  | .block id a, s =>
    match runCode cf lf H a s with
    | some (.exit id', s') => if id' = id then some (.normal, s') else some (.exit id', s')
    | r => r
  | .loop a, s => lf a s
  | .exit id, s => some (.exit id, s)
  | .ret, s => some (.ret, s)

def resultA (H : AHeap) (ts : TS) : RV → Option Value
  | .tmp t => if (ts t).cells.toList.all isCell = true then some (ts t) else none
  | .cell agg n t =>
    match opA (fun _ _ _ _ => none) ts H 0 (.load agg n (.tmp t)) with
    | some (v, _, _) => some v
    | none => none

def resultsA (H : AHeap) (ts : TS) : List RV → Option (List Value)
  | [] => some []
  | r :: rs =>
    match resultA H ts r, resultsA H ts rs with
    | some v, some vs => some (v :: vs)
    | _, _ => none

def oneOf : List Value → Value
  | [v] => v
  | vs => .tuple vs.toArray

/-- The functions: a body, or (of the library's) a plain answer. -/
structure Table where
  fn : Nat → Option AFn
  prim : Nat → List Value → Option Value

def initTS (args : List Value) : TS := fun j => args.getD j undefA

def callWith (A : Table) (ex : AHeap → AC → St → Res) : CallF := fun f args H c =>
  match A.fn f with
  | some fd =>
    if args.length ≤ fd.ntmps then
      match ex H fd.code ⟨initTS args, [], c⟩ with
      | some (e, s) =>
        if e = .normal ∨ e = .ret then
          match resultsA (s.u ++ H) s.ts fd.results with
          | some vs => some (oneOf vs, s.u, s.c)
          | none => none
        else none
      | none => none
    else none
  | none =>
    match A.prim f args with
    | some v => some (v, [], c)
    | none => none

def exec (A : Table) : Nat → AHeap → AC → St → Res
  | 0, _, _, _ => none
  | n + 1, H, code, s =>
    runCode (callWith A (exec A n)) (fun body s =>
      match exec A n H body s with
      | some (.normal, s') => exec A n H (.loop body) s'
      | r => r) H code s

def callA (A : Table) (n : Nat) : CallF := callWith A (exec A n)

end Go.Proofs.Ytfcglkajekohiaa.AM
