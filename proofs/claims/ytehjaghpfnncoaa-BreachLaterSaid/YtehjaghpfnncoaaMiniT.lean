/- The model's code brought into the small semantics' form. -/
import Derived.Test.YtehjaghpfnncoaaMiniB
set_option linter.unusedSimpArgs false
set_option linter.unusedVariables false
namespace Go.Mini
open Go

def cst1 : Value → Option MV
  | .int k n => some (.dat (.int k n))
  | .bool b => some (.dat (.bool b))
  | .string s => some (.dat (.str s.data.toList))
  | .slice none 0 0 => some .nil
  | .pointer none => some (.dat .nilp)
  | .nilFunc => some (.dat .nilf)
  | _ => none

def cst : Value → Option MV
  | .agg cs => (cs.toList.mapM cst1).map .agg
  | v => cst1 v

def trOpd : Operand → Option Opd
  | .tmp t => some (.t t)
  | .const v => (cst v).map .c
  | .func f => some (.c (.clo f []))
  | .global _ => none

/-- Zero cells of a type. -/
def zeroOf (P : Program) (t : TypeId) : Option (List MV) := ((P.info? t).bind (·.zero)).bind fun z => z.cells.toList.mapM cst1
def sizeT (P : Program) (t : TypeId) : Option Nat := (P.info? t).map (·.size)
def bytesT (P : Program) (t : TypeId) : Option Nat := (P.info? t).map (·.bytes)
def aggT (P : Program) (t : TypeId) : Option Bool := (P.underlying t).map fun | .struct _ => true | .array _ _ => true | _ => false

def partsOf (place : Nat → Option (Nat × Nat)) (l : List (Nat × Operand)) : Option (List (Nat × Nat × Opd)) :=
  l.mapM fun (i, x) => do
    let (o, s) ← place i
    let y ← trOpd x
    pure (o, s, y)

def fieldPlaces (P : Program) (fs : Array Field) (i : Nat) : Option (Nat × Nat) := do
  let f ← fs[i]?
  let s ← sizeT P f.type
  pure (f.offset, s)

/-- bools, numbers, strings -/
def kindT (P : Program) (t : TypeId) : Option Nat :=
  match P.underlying t with
  | some .bool => some 0
  | some (.int _) => some 1
  | some .string => some 2
  | _ => none

/-- A struct all of whose fields are bools, numbers or strings, each in its one cell, in their order. -/
def kindFields (P : Program) : Nat → List Field → Option (List Nat)
  | _, [] => some []
  | i, f :: r => if f.name ≠ "_" ∧ f.offset = i then (match kindT P f.type, kindFields P (i + 1) r with
    | some k, some ks => some (k :: ks)
    | _, _ => none) else none

def trEqs (P : Program) (t : TypeId) (fs : Array Field) (neg : Bool) (x y : Operand) : Option MOp :=
  if P.stoodInHeld t = false ∧ P.eqGuardType P.depth t = false then (match kindFields P 0 fs.toList, trOpd x, trOpd y with
    | some ks, some x, some y => some (.eqs neg ks x y)
    | _, _, _ => none) else none

/-- The slice nil. -/
def isNilC : Operand → Bool
  | .const (.slice none 0 0) => true
  | _ => false

def trBin (P : Program) (op : BinOp) (t : TypeId) (x y : Operand) : Option MOp :=
  match P.underlying t with
  | some (.int _) => match trOpd x, trOpd y with
    | some x, some y => some (.bin op x y)
    | _, _ => none
  | some .string => match trOpd x, trOpd y with
    | some x, some y => some (.bin op x y)
    | _, _ => none
  | some .bool => match op, trOpd x, trOpd y with
    | .eql, some x, some y => some (.beq false x y)
    | .neq, some x, some y => some (.beq true x y)
    | _, _, _ => none
  | some (.struct fs) => match op with
    | .eql => trEqs P t fs false x y
    | .neq => trEqs P t fs true x y
    | _ => none
  | some (.slice _) => if isNilC y = true then (match op with
    | .eql => (trOpd x).map (.isnil false)
    | .neq => (trOpd x).map (.isnil true)
    | _ => none) else none
  | _ => none

def optOpd : Option Operand → Option (Option Opd)
  | none => some none
  | some x => (trOpd x).map some

def trCall (P : Program) (kb : Nat) (own : List Nat) (dst : Option Nat) (type : TypeId) (c : Call) : Option MOp :=
  match c.callee, c.args.toList, c.argTypes.toList with
  | .builtin .len, [x], [t] => match P.underlying t with
    | some (.slice _) => (trOpd x).map .len
    | some .string => (trOpd x).map .lens
    | _ => none
  | .builtin .append, [s, x], [t, u] => match P.underlying t, P.underlying u with
    | some (.slice e), some (.slice _) => do
      let z ← zeroOf P e
      let b ← bytesT P e
      let n ← sizeT P e
      let d ← dst
      let s ← trOpd s
      let x ← trOpd x
      if z.length = n ∧ 0 < n ∧ t = u then pure (.app (kb + d) z b s x) else none
    | _, _ => none
  | .builtin .copy, [d, x], [t, u] => match P.underlying t, P.underlying u with
    | some (.slice e), some (.slice _) => do
      let n ← sizeT P e
      if 0 < n then pure (.cpy n (← trOpd d) (← trOpd x)) else none
    | _, _ => none
  | .builtin .max, [x, y], _ => do pure (.mm true (← trOpd x) (← trOpd y))
  | .builtin .min, [x, y], _ => do pure (.mm false (← trOpd x) (← trOpd y))
  | .value (.func f), l, _ => if dst.any (fun d => own.contains d) then (match P.underlying type with
      | some (.slice e) => do pure (.callo (kb + (← dst)) (← sizeT P e) f (← l.mapM trOpd))
      | _ => none) else do pure (.call f (← l.mapM trOpd))
  | .value f, l, _ => do pure (.callv (← trOpd f) (← l.mapM trOpd))
  | _, _, _ => none

def trOp (P : Program) (kb : Nat) (own : List Nat) (dst : Option Nat) (type : TypeId) : Op → Option MOp
  | .move x => (trOpd x).map .mv
  | .assign x => (trOpd x).map .mv
  | .pick c a b => do pure (.pick (← trOpd c) (← trOpd a) (← trOpd b))
  | .alloc e => do pure (.alloc (kb + (← dst)) (← zeroOf P e))
  | .box _ x => do pure (.box (kb + (← dst)) (← trOpd x))
  | .build t ps => match P.underlying t with
    | some (.struct fs) => if (fs.toList.all fun f => (sizeT P f.type).isSome) = true then do pure (.build (← zeroOf P t) (← partsOf (fieldPlaces P fs) ps.toList)) else none
    | some (.array _ e) => do
      let s ← sizeT P e
      pure (.build (← zeroOf P t) (← partsOf (fun i => some (i * s, s)) ps.toList))
    | _ => none
  | .buildSlice t len ps => match P.underlying t with
    | some (.slice e) => do
      let z ← zeroOf P e
      let s ← sizeT P e
      let ps ← partsOf (fun i => some (i * s, s)) ps.toList
      let d ← dst
      if z.length = s ∧ 0 < s ∧ len * s ≤ 16777216 then pure (.bsl (kb + d) (own.contains d) ((List.replicate len z).flatten) s len ps) else none
    | _ => none
  | .load t x => do pure (.load (← sizeT P t) (← aggT P t) (← trOpd x))
  | .store t x v => do pure (.store (← sizeT P t) (← trOpd x) (← trOpd v))
  | .binOp op t x y _ => trBin P op t x y
  | .unOp op _ x => (trOpd x).map (.un op)
  | .nilCheck x => (trOpd x).map .nchk
  | .convert s t x => match P.underlying s, P.underlying t with
    | some (.int _), some (.int k) => (trOpd x).map (.conv k)
    | _, _ => none
  | .makeFunc (.func f) fst caps => if fst.size = 0 then do pure (.mkfn f (← caps.toList.mapM trOpd)) else none
  | .makeSlice t l c => match P.underlying t with
    | some (.slice e) => do
      let z ← zeroOf P e
      let s ← sizeT P e
      let b ← bytesT P e
      let d ← dst
      if z.length = s ∧ 0 < s then pure (.mksl (kb + d) z b (← trOpd l) (← trOpd c)) else none
    | _ => none
  | .slice t x lo hi mx => match P.underlying t with
    | some (.slice e) => do
      let s ← sizeT P e
      if 0 < s then pure (.slc s (← trOpd x) (← optOpd lo) (← optOpd hi) (← optOpd mx)) else none
    | some (.array n e) => do
      let s ← sizeT P e
      if 0 < s ∧ n ≤ 16777216 then pure (.slca n s (← trOpd x) (← optOpd lo) (← optOpd hi) (← optOpd mx)) else none
    | some .string => if mx.isNone then do pure (.slcs (← trOpd x) (← optOpd lo) (← optOpd hi)) else none
    | _ => none
  | .fieldAddr t x f => match P.underlying t with
    | some (.struct fs) => do
      let (o, s) ← fieldPlaces P fs f
      if 0 < s then pure (.fad o (← trOpd x)) else none
    | _ => none
  | .field t x f => match P.underlying t with
    | some (.struct fs) => do
      let fd ← fs[f]?
      let (o, s) ← fieldPlaces P fs f
      pure (.fld o s (← aggT P fd.type) (← trOpd x))
    | _ => none
  | .indexAddr t x i => match P.underlying t with
    | some (.slice e) => do
      let s ← sizeT P e
      if 0 < s then pure (.iad s (← trOpd x) (← trOpd i)) else none
    | some (.array n e) => do
      let s ← sizeT P e
      if 0 < s then pure (.iada n s (← trOpd x) (← trOpd i)) else none
    | _ => none
  | .index t x i => match P.underlying t with
    | some .string => do pure (.idxs (← trOpd x) (← trOpd i))
    | _ => none
  | .extract x i => (trOpd x).map (.ext i)
  | .call c => trCall P kb own dst type c
  | _ => none

def trGuard (ops : Array Oper) : Option (Nat × Bool) → Option (Option (Nat × Bool))
  | none => some none
  | some (j, b) => match (ops[j]?).bind (·.dst) with
    | some s => some (some (s, b))
    | none => none

def trOper (P : Program) (n kb : Nat) (own : List Nat) (ops : Array Oper) (o : Oper) : Option MI :=
  match trGuard ops o.guard with
  | some g => if o.dst.all (fun d => decide (d < n)) = true then some ⟨o.dst, g, (trOp P kb own o.dst o.type o.op).getD .bad⟩ else none
  | _ => none

/-- What an operation may meet: 0: values alone, and calls; 1: it reads memory; 2: it changes it. -/
def classOf (m : MOp) : Nat := match m with
  | .load .. => 1
  | .slca .. => 1
  | m => if wrs m = true then 2 else 0

/-- Two operations of which neither waits for the other: may they change places, whatever blocks they meet? -/
def mayPass (a b : Nat) : Bool := a == 0 || b == 0 || (a == 1 && b == 1)

def opdT : Opd → List Nat
  | .t s => [s]
  | .c _ => []

def optT : Option Opd → List Nat
  | some (.t s) => [s]
  | _ => []

def opds : MOp → List Nat
  | .mv x => opdT x
  | .pick c a b => opdT c ++ opdT a ++ opdT b
  | .alloc _ _ => []
  | .box _ x => opdT x
  | .build _ ps => ps.flatMap fun p => opdT p.2.2
  | .bsl _ _ _ _ _ ps => ps.flatMap fun p => opdT p.2.2
  | .load _ _ x => opdT x
  | .store _ x v => opdT x ++ opdT v
  | .bin _ x y => opdT x ++ opdT y
  | .beq _ x y => opdT x ++ opdT y
  | .eqs _ _ x y => opdT x ++ opdT y
  | .isnil _ x => opdT x
  | .un _ x => opdT x
  | .conv _ x => opdT x
  | .nchk x => opdT x
  | .mksl _ _ _ x y => opdT x ++ opdT y
  | .fad _ x => opdT x
  | .fld _ _ _ x => opdT x
  | .iad _ x i => opdT x ++ opdT i
  | .iada _ _ x i => opdT x ++ opdT i
  | .idxs x i => opdT x ++ opdT i
  | .slc _ x a b c => opdT x ++ optT a ++ optT b ++ optT c
  | .slca _ _ x a b c => opdT x ++ optT a ++ optT b ++ optT c
  | .slcs x a b => opdT x ++ optT a ++ optT b
  | .ext _ x => opdT x
  | .len x => opdT x
  | .lens x => opdT x
  | .app _ _ _ s x => opdT s ++ opdT x
  | .cpy _ s x => opdT s ++ opdT x
  | .mm _ x y => opdT x ++ opdT y
  | .call _ l => l.flatMap opdT
  | .callo _ _ _ l => l.flatMap opdT
  | .callv f l => opdT f ++ l.flatMap opdT
  | .mkfn _ l => l.flatMap opdT
  | .bad => []

def looks (i : MI) : List Nat := opds i.op ++ (match i.g with | some (s, _) => [s] | none => [])

/-- Neither writes what the other looks at, or writes. -/
def apartM (x y : MI) : Bool :=
  (match x.dst with
   | some d => !(looks y).contains d && y.dst != some d
   | none => true) &&
  (match y.dst with
   | some d => !(looks x).contains d
   | none => true)

/-- For each operation, as bits, those for which it waits, itself or by others. -/
def ancL : List Oper → List Nat → List Nat
  | [], acc => acc
  | o :: r, acc => ancL r (acc ++ [o.after.toList.foldl (fun s e => if Region.binds .any e = true then s ||| (2 ^ e.on ||| acc.getD e.on 0) else s) 0])

/-- Each operation, and those before it in the text: either it waits, or they are apart. -/
def drawRows : List MI → List MI → List Nat → Bool
  | _, [], _ => true
  | pre, c :: cs, a :: as => (pre.zipIdx.all fun (p, i) => a.testBit i || apartM p c) && drawRows (pre ++ [c]) cs as
  | _, _ :: _, [] => false

/-- Each operation waits for operations before it in the text alone. -/
def edgesOK : Nat → List Oper → Bool
  | _, [] => true
  | n, o :: r => (o.after.all fun e => !Region.binds .any e || decide (e.on < n)) && edgesOK (n + 1) r

def drawOK (ops : Array Oper) (l : List MI) : Bool := edgesOK 0 ops.toList && drawRows [] l (ancL ops.toList [])

/-- For each operation those before it for which it does not wait, and which it may not pass, if they meet the same block. -/
def chkOf : List MI → List MI → List Nat → List (List Nat)
  | _, [], _ => []
  | pre, c :: cs, as => ((pre.zipIdx.filter fun (p, i) => !((as.headD 0).testBit i || mayPass (classOf p.op) (classOf c.op))).map (·.2)) :: chkOf (pre ++ [c]) cs as.tail

def trCode (P : Program) (n kb : Nat) (own : List Nat) : Code → Option MCode
  | .skip => some .skip
  | .region _ ops draw => match ops.toList.mapM (trOper P n kb own ops) with
    | some l => if draw = true then (if drawOK ops l = true then some (.opsD l (chkOf [] l (ancL ops.toList []))) else none) else some (.ops l)
    | none => none
  | .seq a b => match trCode P n kb own a, trCode P n kb own b with
    | some x, some y => some (.seq x y)
    | _, _ => none
  | .cond c a b => match trOpd c, trCode P n kb own a, trCode P n kb own b with
    | some c, some x, some y => some (.cond c x y)
    | _, _, _ => none
  | .block id c => (trCode P n kb own c).map (.block id)
  | .loop c => (trCode P n kb own c).map .loop
  | .exit id => some (.exit id)
  | .ret => some .ret
  | _ => none

def trRes (P : Program) : ResultVar → Option MRes
  | .tmp t => some (.t t)
  | .cell a t => match sizeT P t, aggT P t with
    | some s, some g => some (.cell a s g)
    | _, _ => none

def trFunc (P : Program) (kb : Nat) (own : List Nat) (f : Func) : Option MFunc :=
  match f.body with
  | none => none
  | some c => match trCode P f.ntmps kb own c, f.results.toList.mapM (trRes P) with
    | some b, some r => some { n := f.ntmps, np := f.params.size + f.nfree, res := r, body := b }
    | _, _ => none

end Go.Mini
