/-
  From the model's code to the plain machine's.
-/
import Derived.Test.YtfcglkajekohiaaAmA
set_option linter.unusedSimpArgs false
set_option linter.unusedVariables false
namespace Go.Proofs.Ytfcglkajekohiaa.AM
open Go

def simpleCell : Value → Bool
  | .int _ _ | .bool _ | .string _ | .pointer none | .nilIface | .nilFunc => true
  | .slice none l c => l == 0 && c == 0
  | _ => false

def simpleVal : Value → Bool
  | .agg cs => cs.toList.all simpleCell
  | v => simpleCell v

def lowOpnd (n : Nat) : Operand → Option Opnd
  | .tmp t => if t < n then some (.tmp t) else none
  | .const v => if simpleVal v then some (.const v) else none
  | _ => none

def lowOpt (n : Nat) : Option Operand → Option (Option Opnd)
  | none => some none
  | some o => (lowOpnd n o).map some

def lowList (n : Nat) : List Operand → Option (List Opnd)
  | [] => some []
  | o :: r =>
    match lowOpnd n o, lowList n r with
    | some a, some b => some (a :: b)
    | _, _ => none

def aggT (P : Program) (t : TypeId) : Option Bool :=
  match P.underlying t with
  | some (.struct _) | some (.array _ _) => some true
  | some _ => some false
  | none => none

/-- Size and zero cells of a type. -/
def zeroT (P : Program) (t : TypeId) : Option (Nat × List Value) :=
  match P.info? t with
  | some i =>
    match i.zero with
    | some z => if z.cells.size = i.size ∧ z.cells.toList.all simpleCell then some (i.size, z.cells.toList) else none
    | none => none
  | none => none

def sizeT (P : Program) (t : TypeId) : Option Nat := (P.info? t).map (·.size)

def placeOf (P : Program) (fields : Array Field) (i : Nat) : Option (Nat × Nat) :=
  match fields[i]? with
  | some f => (sizeT P f.type).map fun s => (f.offset, s)
  | none => none

def lowParts (n : Nat) (place : Nat → Option (Nat × Nat)) : List (Nat × Operand) → Option (List (Nat × Nat × Opnd))
  | [] => some []
  | (i, x) :: r =>
    match place i, lowOpnd n x, lowParts n place r with
    | some p, some o, some l => some ((p.1, p.2, o) :: l)
    | _, _, _ => none

def kindOf (P : Program) (t : TypeId) : Option FK :=
  match P.underlying t with
  | some (.int _) => some .int
  | some .bool => some .bool
  | some .string => some .str
  | _ => none

/-- The kinds of the fields of a struct whose values are compared cell by cell. -/
def flatFrom (P : Program) : Nat → List Field → Option (List FK)
  | _, [] => some []
  | k, f :: r =>
    if f.name ≠ "_" ∧ f.offset = k then
      match kindOf P f.type, flatFrom P (k + 1) r with
      | some a, some b => some (a :: b)
      | _, _ => none
    else none

def flatStruct (P : Program) (t : TypeId) : Option (List FK) :=
  match P.underlying t with
  | some (.struct fs) => if P.stoodInHeld t = false ∧ P.eqGuardType P.depth t = false then flatFrom P 0 fs.toList else none
  | some .bool => some [.self]
  | _ => none

def isU8 (P : Program) (e : TypeId) : Bool :=
  match P.underlying e with
  | some (.int .u8) => true
  | _ => false

def lowOp (P : Program) (n : Nat) : Op → Option AOp
  | .move x | .assign x => (lowOpnd n x).map .mov
  | .pick c a b =>
    match lowOpnd n c, lowOpnd n a, lowOpnd n b with
    | some c, some a, some b => some (.pick c a b)
    | _, _, _ => none
  | .alloc e => (zeroT P e).map fun z => .new z.2
  | .box _ x => (lowOpnd n x).map .box
  | .build t parts =>
    match P.underlying t, zeroT P t with
    | some (.struct fs), some z =>
      if fs.toList.all fun f => (sizeT P f.type).isSome then (lowParts n (placeOf P fs) parts.toList).map (.build z.2) else none
    | _, _ => none
  | .buildSlice t len parts =>
    match P.underlying t with
    | some (.slice e) =>
      match zeroT P e with
      | some z =>
        if 0 < z.1 ∧ len * z.1 ≤ 2 ^ 24 then (lowParts n (fun i => some (i * z.1, z.1)) parts.toList).map (.arr z.1 z.2 len) else none
      | none => none
    | _ => none
  | .load t a =>
    match aggT P t, sizeT P t, lowOpnd n a with
    | some g, some s, some a => if g || s == 1 then some (.load g s a) else none
    | _, _, _ => none
  | .store t a v =>
    match sizeT P t, lowOpnd n a, lowOpnd n v with
    | some s, some a, some v => some (.store s a v)
    | _, _, _ => none
  | .nilCheck x => (lowOpnd n x).map .nilChk
  | .binOp op t x y _ =>
    match lowOpnd n x, lowOpnd n y with
    | some x, some y => some (.bin op (flatStruct P t) x y)
    | _, _ => none
  | .unOp op _ x => (lowOpnd n x).map (.un op)
  | .convert src dst x =>
    match P.underlying src, P.underlying dst, lowOpnd n x with
    | some (.int _), some (.int k), some x => some (.convInt k x)
    | some .string, some .string, some x => some (.convStr x)
    | some .string, some (.slice e), some x => if isU8 P e then some (.convS2B x) else none
    | some (.slice e), some .string, some x => if isU8 P e then some (.convB2S x) else none
    | _, _, _ => none
  | .makeSlice t l c =>
    match P.underlying t, lowOpnd n l, lowOpnd n c with
    | some (.slice e), some l, some c =>
      match zeroT P e with
      | some z => if 0 < z.1 then some (.mkSlice z.1 (P.bytesOf e) z.2 l c) else none
      | none => none
    | _, _, _ => none
  | .slice t x lo hi mx =>
    match P.underlying t, lowOpnd n x, lowOpt n lo, lowOpt n hi, mx with
    | some .string, some x, some lo, some hi, none => some (.sliceS x lo hi)
    | some (.slice e), some x, some lo, some hi, none => (sizeT P e).map fun s => .sliceA s x lo hi
    | _, _, _, _, _ => none
  | .fieldAddr s x f =>
    match P.underlying s, lowOpnd n x with
    | some (.struct fs), some x =>
      match placeOf P fs f with
      | some p => if p.2 = 0 then none else some (.fieldAddr p.1 x)
      | none => none
    | _, _ => none
  | .field t x f =>
    match P.underlying t, lowOpnd n x with
    | some (.struct fs), some x =>
      match fs[f]? with
      | some fd =>
        match aggT P fd.type, sizeT P fd.type with
        | some g, some s => if g || s == 1 then some (.field g fd.offset s x) else none
        | _, _ => none
      | none => none
    | _, _ => none
  | .indexAddr t x i =>
    match P.underlying t, lowOpnd n x, lowOpnd n i with
    | some (.slice e), some x, some i => (sizeT P e).map fun s => .idxAddr s x i
    | _, _, _ => none
  | .index t x i =>
    match P.underlying t, lowOpnd n x, lowOpnd n i with
    | some .string, some x, some i => some (.idxStr x i)
    | _, _, _ => none
  | .extract t i => (lowOpnd n t).map (.extract i)
  | .call c =>
    match c.callee with
    | .value (.func f) => (lowList n c.args.toList).map (.call f)
    | .builtin .len =>
      match c.args.toList, (c.argTypes[0]?).bind P.underlying with
      | [x], some .string => (lowOpnd n x).map (.len true)
      | [x], some (.slice _) => (lowOpnd n x).map (.len false)
      | _, _ => none
    | .builtin .append =>
      match c.args.toList, (c.argTypes[0]?).bind P.underlying, c.argTypes[1]? with
      | [s, x], some (.slice e), some t1 =>
        match zeroT P e, lowOpnd n s, lowOpnd n x, P.underlying t1 with
        | some z, some s, some x, some (.slice _) => if 0 < z.1 then some (.append z.1 (P.bytesOf e) z.2 s x) else none
        | some z, some s, some x, some .string => if 0 < z.1 then some (.append z.1 (P.bytesOf e) z.2 s x) else none
        | _, _, _, _ => none
      | _, _, _ => none
    | .builtin .max =>
      match c.args.toList with
      | x :: r =>
        match lowOpnd n x, lowList n r with
        | some x, some r => some (.minmax true x r)
        | _, _ => none
      | [] => none
    | .builtin .min =>
      match c.args.toList with
      | x :: r =>
        match lowOpnd n x, lowList n r with
        | some x, some r => some (.minmax false x r)
        | _, _ => none
      | [] => none
    | _ => none
  | _ => none

def dstOk (n : Nat) : Option Nat → Bool
  | some d => decide (d < n)
  | none => true

def lowOper (P : Program) (n : Nat) (ops : Array Oper) (o : Oper) : Option AOper :=
  match lowOp P n o.op with
  | some op =>
    if dstOk n o.dst then
      match o.guard with
      | none => some ⟨o.dst, op, none⟩
      | some (j, b) =>
        match (ops[j]?).bind (·.dst) with
        | some t => if t < n then some ⟨o.dst, op, some (t, b)⟩ else none
        | none => none
    else none
  | none => none

def lowOpers (P : Program) (n : Nat) (ops : Array Oper) : List Oper → Option (List AOper)
  | [] => some []
  | o :: r =>
    match lowOper P n ops o, lowOpers P n ops r with
    | some a, some b => some (a :: b)
    | _, _ => none

/-! ### a region whose order is drawn -/

def opndTmps : List Opnd → List Nat := fun l => l.filterMap fun | .tmp t => some t | _ => none

def opOpnds : AOp → List Opnd
  | .mov x | .box x | .nilChk x | .un _ x | .convInt _ x | .convStr x | .convS2B x | .convB2S x | .fieldAddr _ x | .field _ _ _ x | .extract _ x | .len _ x => [x]
  | .new _ => []
  | .pick a b c => [a, b, c]
  | .build _ ps | .arr _ _ _ ps => ps.map (·.2.2)
  | .load _ _ a => [a]
  | .store _ a v => [a, v]
  | .bin _ _ x y | .mkSlice _ _ _ x y | .idxAddr _ x y | .idxStr x y | .append _ _ _ x y => [x, y]
  | .sliceS x l h | .sliceA _ x l h => x :: (l.toList ++ h.toList)
  | .minmax _ x r => x :: r
  | .call _ args => args

/-- The temporaries that an operation looks at. -/
def operTmps (o : AOper) : List Nat := opndTmps (opOpnds o.op) ++ (o.guard.toList.map (·.1))

/-- What must be ahead of an operation, as numbers, the later first. -/
def predsOf (n : Nat) (mask : Nat) : List Nat := ((List.range n).filter fun i => mask.testBit i).reverse

/-- Do the operations that may come in either order leave each other's temporaries alone? -/
def tmpsApart (a b : AOper) : Bool :=
  match a.dst with
  | some d => !(operTmps b).contains d && b.dst != some d
  | none => true

def drawOkAt (l : List (AOper × List Nat)) (j : Nat) : Bool :=
  match l[j]? with
  | some (o, ps) =>
    (ps.all fun i => decide (i < j)) &&
    ((others j ps).all fun i =>
      match l[i]? with
      | some (q, _) => tmpsApart o q && tmpsApart q o
      | none => false)
  | none => false

/-- Each operation's list holds what must be ahead of what must be ahead of it; it comes of the edges; it falls. -/
def closedAt (ops : Array Oper) (l : List (AOper × List Nat)) (j : Nat) : Bool :=
  match l[j]?, ops[j]? with
  | some (_, ps), some o =>
    (ps.all fun i =>
      match l[i]? with
      | some (_, qs) => qs.all fun k => ps.contains k
      | none => false) &&
    (o.after.all fun e => !Region.binds .any e || ps.contains e.on) &&
    (ps.all fun i => o.after.any fun e => Region.binds .any e && (e.on == i || match l[e.on]? with
      | some (_, qs) => qs.contains i
      | none => false)) &&
    (ps == ((List.range l.length).filter fun i => ps.contains i).reverse)
  | _, _ => false

def drawOk (ops : Array Oper) (l : List (AOper × List Nat)) : Bool := (List.range l.length).all fun j => drawOkAt l j && closedAt ops l j

def lowCode (P : Program) (n : Nat) : Code → Option AC
  | .skip => some .skip
  | .region _ ops d =>
    match lowOpers P n ops ops.toList with
    | some l =>
      if d then
        let pl := l.zip ((List.range ops.size).map fun j => predsOf j ((Region.before ops).getD j 0))
        if drawOk ops pl then some (.draw pl) else none
      else some (.ops l)
    | none => none
  | .seq a b =>
    match lowCode P n a, lowCode P n b with
    | some a, some b => some (.seq a b)
    | _, _ => none
  | .cond c a b =>
    match lowOpnd n c, lowCode P n a, lowCode P n b with
    | some c, some a, some b => some (.cond c a b)
    | _, _, _ => none
  | .block id a => (lowCode P n a).map (.block id)
  | .loop a => (lowCode P n a).map .loop
  | .exit id => some (.exit id)
  | .ret => some .ret
  | _ => none

def lowRV (P : Program) (n : Nat) : ResultVar → Option RV
  | .tmp t => if t < n then some (.tmp t) else none
  | .cell a t =>
    match aggT P t, sizeT P t with
    | some g, some s => if a < n ∧ (g || s == 1) then some (.cell g s a) else none
    | _, _ => none

def lowRVs (P : Program) (n : Nat) : List ResultVar → Option (List RV)
  | [] => some []
  | r :: rs =>
    match lowRV P n r, lowRVs P n rs with
    | some a, some b => some (a :: b)
    | _, _ => none

def lowFn (P : Program) (f : Nat) : Option AFn :=
  match P.funcs[f]? with
  | some fn =>
    match fn.body with
    | some code =>
      if fn.name == "runtime.NumGoroutine" then none else
      match lowCode P fn.ntmps code, lowRVs P fn.ntmps fn.results.toList with
      | some c, some r => some ⟨c, fn.ntmps, r⟩
      | _, _ => none
    | none => none
  | none => none

end Go.Proofs.Ytfcglkajekohiaa.AM
