/- The small semantics: operations over data and own blocks; deterministic; partial where it does not speak. -/
import Derived.Test.YtehjaghpfnncoaaMiniA
set_option linter.unusedSimpArgs false
set_option linter.unusedVariables false
namespace Go.Mini
open Go

/-- An operand. -/
inductive Opd where
  | t (s : Nat)
  | c (m : MV)
  deriving Inhabited

/-- An operation, its types resolved. -/
inductive MOp where
  | mv (x : Opd)
  | pick (c a b : Opd)
  | alloc (k : Key) (z : List MV)
  | box (k : Key) (x : Opd)
  | build (z : List MV) (parts : List (Nat × Nat × Opd))
  | bsl (k : Key) (own : Bool) (z : List MV) (sz len : Nat) (parts : List (Nat × Nat × Opd))
  | load (n : Nat) (ag : Bool) (x : Opd)
  | store (n : Nat) (x v : Opd)
  | bin (op : BinOp) (x y : Opd)
  | beq (neg : Bool) (x y : Opd)
  | eqs (neg : Bool) (ks : List Nat) (x y : Opd)
  | isnil (neg : Bool) (x : Opd)
  | un (op : UnOp) (x : Opd)
  | conv (k : IntKind) (x : Opd)
  | nchk (x : Opd)
  | mksl (k : Key) (z : List MV) (bytes : Nat) (len cap : Opd)
  | fad (off : Nat) (x : Opd)
  | fld (off n : Nat) (ag : Bool) (x : Opd)
  | iad (sz : Nat) (x i : Opd)
  | iada (len sz : Nat) (x i : Opd)
  | idxs (x i : Opd)
  | slc (sz : Nat) (x : Opd) (lo hi mx : Option Opd)
  | slca (len sz : Nat) (x : Opd) (lo hi mx : Option Opd)
  | slcs (x : Opd) (lo hi : Option Opd)
  | ext (i : Nat) (x : Opd)
  | len (x : Opd)
  | lens (x : Opd)
  | app (k : Key) (z : List MV) (bytes : Nat) (s x : Opd)
  | cpy (sz : Nat) (d x : Opd)
  | mm (mx : Bool) (x y : Opd)
  | call (f : FuncId) (args : List Opd)
  | callo (k : Key) (sz : Nat) (f : FuncId) (args : List Opd)
  | callv (f : Opd) (args : List Opd)
  | mkfn (f : FuncId) (caps : List Opd)
  | bad
  deriving Inhabited

/-- An operation in its place. -/
structure MI where
  dst : Option Nat
  g : Option (Nat × Bool)
  op : MOp
  deriving Inhabited

/-- Steps that stand in no text: they change how the memory is spoken of. -/
inductive Ghost where
  | adopt (s : Nat) (k : Key) (sz : Nat)
  | adoptC (x : Opd) (i : Nat) (k : Key) (sz : Nat)
  | freeze (s : Nat)
  | freezeC (x : Opd) (i : Nat)
  deriving Inhabited

inductive MCode where
  | skip
  | ops (l : List MI)
  | opsD (l : List MI) (c : List (List Nat))
  | seq (a b : MCode)
  | cond (c : Opd) (a b : MCode)
  | block (id : Nat) (c : MCode)
  | loop (c : MCode)
  | exit (id : Nat)
  | ret
  | ghost (g : Ghost) (c : MCode)
  deriving Inhabited

inductive MRes where
  | t (s : Nat)
  | cell (s n : Nat) (ag : Bool)
  deriving Inhabited

structure MFunc where
  n : Nat
  np : Nat
  res : List MRes
  body : MCode
  deriving Inhabited

/-- The state of an activation. -/
structure St where
  tm : Nat → MV
  mem : Mem

def upd (tm : Nat → MV) (s : Nat) (m : MV) : Nat → MV := fun t => if t = s then m else tm t

def put (tm : Nat → MV) : Option Nat → MV → Nat → MV
  | some s, m => upd tm s m
  | none, _ => tm

@[simp] theorem upd_get (tm : Nat → MV) (s : Nat) (m : MV) (t : Nat) : upd tm s m t = if t = s then m else tm t := rfl

def ev (tm : Nat → MV) : Opd → MV
  | .t s => tm s
  | .c m => m

/-- The cells of a value. -/
def MV.cells : MV → List MV
  | .agg cs => cs
  | .dat (.agg ds) => ds.map .dat
  | m => [m]

def MV.known : MV → Bool
  | .undef => false
  | _ => true

/-- A value that may lie in one cell. -/
def MV.one : MV → Bool
  | .dat (.agg _) => false
  | .dat (.tup _) => false
  | .dat _ => true
  | .nil => true
  | .ref .. => true
  | .ptr .. => true
  | .clo .. => true
  | _ => false

def mkAgg (ag : Bool) (cs : List MV) : Option MV :=
  if ag = true then some (.agg cs) else match cs with
    | [m] => some m
    | _ => none

/-- n cells of a row, from off on. -/
def cut (cs : List MV) (off n : Nat) : Option (List MV) :=
  if off + n ≤ cs.length then some ((cs.drop off).take n) else none

def splice (cs : List MV) (off : Nat) (new : List MV) : List MV := cs.take off ++ new ++ cs.drop (off + new.length)

/-- Parts laid into cells. -/
def fillM (ev : Opd → MV) (cells : List MV) : List (Nat × Nat × Opd) → Option (List MV)
  | [] => some cells
  | (off, size, x) :: rest =>
    if (ev x).known = true ∧ (ev x).cells.length = size ∧ off + size ≤ cells.length then fillM ev (splice cells off (ev x).cells) rest else none

def datOf : MV → Option Data
  | .dat d => some d
  | .nil => some (.sl [])
  | _ => none

/-- A list in chunks of sz. -/
def chunk (sz : Nat) : Nat → List Data → List (List Data)
  | 0, _ => []
  | n + 1, l => l.take sz :: chunk sz n (l.drop sz)

def binI (op : BinOp) (k : IntKind) (a b : Int) : Option Data :=
  match op with
  | .add => some (.int k (k.wrap (a + b)))
  | .sub => some (.int k (k.wrap (a - b)))
  | .mul => some (.int k (k.wrap (a * b)))
  | .quo => if b = 0 then none else some (.int k (k.wrap (a.tdiv b)))
  | .rem => if b = 0 then none else some (.int k (a.tmod b))
  | .and => some (.int k (bits .and k a b))
  | .or => some (.int k (bits .or k a b))
  | .xor => some (.int k (bits .xor k a b))
  | .andNot => some (.int k (bits .andNot k a b))
  | .eql => some (.bool (a == b))
  | .neq => some (.bool (a != b))
  | .lss => some (.bool (a < b))
  | .leq => some (.bool (a ≤ b))
  | .gtr => some (.bool (a > b))
  | .geq => some (.bool (a ≥ b))
  | _ => none

def shI (op : BinOp) (k : IntKind) (a b : Int) : Option Data :=
  if b < 0 then none else match op with
  | .shl => some (.int k (k.wrap (a * 2 ^ (min b.toNat k.bits))))
  | .shr => some (.int k (a.fdiv (2 ^ (min b.toNat k.bits))))
  | _ => none

def binS (op : BinOp) (a b : List UInt8) : Option Data :=
  match op with
  | .add => if a.length + b.length ≤ maxLen then some (.str (a ++ b)) else none
  | .eql => some (.bool (a == b))
  | .neq => some (.bool (!(a == b)))
  | .lss => some (.bool (Op.bytesLess a b))
  | .leq => some (.bool (Op.bytesLess a b || a == b))
  | .gtr => some (.bool (!(Op.bytesLess a b || a == b)))
  | .geq => some (.bool (!Op.bytesLess a b))
  | _ => none

def isShift : BinOp → Bool
  | .shl => true
  | .shr => true
  | _ => false

def binM (op : BinOp) (x y : MV) : Option MV :=
  match x, y with
  | .dat (.int k a), .dat (.int k' b) => if isShift op = true then (shI op k a b).map .dat else if k = k' then (binI op k a b).map .dat else none
  | .dat (.str a), .dat (.str b) => (binS op a b).map .dat
  | _, _ => none

def beqM (neg : Bool) : MV → MV → Option MV
  | .dat (.bool a), .dat (.bool b) => some (.dat (.bool (neg != (a == b))))
  | _, _ => none

/-- Two cells of scalars compared: 0: bools, 1: numbers, 2: strings. -/
def eqCell : Nat → MV → MV → Option Bool
  | 0, .dat (.bool a), .dat (.bool b) => some (a == b)
  | 1, .dat (.int k a), .dat (.int k' b) => if k = k' then some (a == b) else none
  | 2, .dat (.str a), .dat (.str b) => some (a == b)
  | _, _, _ => none

def eqCells : List Nat → List MV → List MV → Option Bool
  | [], [], [] => some true
  | k :: ks, a :: x, b :: y => match eqCell k a b, eqCells ks x y with
    | some c, some d => some (c && d)
    | _, _ => none
  | _, _, _ => none

def unM (op : UnOp) (x : MV) : Option MV :=
  match op, x with
  | .neg, .dat (.int k n) => some (.dat (.int k (k.wrap (0 - n))))
  | .xor, .dat (.int k n) => some (.dat (.int k (bits .xor k (if k.signed then -1 else k.max) n)))
  | .not, .dat (.bool b) => some (.dat (.bool !b))
  | _, _ => none

def idx : MV → Option Nat
  | .dat (.int _ n) => if 0 ≤ n then some n.toNat else none
  | _ => none

def idxO (d : Nat) : Option MV → Option Nat
  | none => some d
  | some x => idx x

def lenM : MV → Option Nat
  | .dat (.sl es) => some es.length
  | .nil => some 0
  | .ref _ _ _ _ n => some n
  | _ => none

/-- n cells behind a pointer. -/
def loadM (mem : Mem) (n : Nat) (ag : Bool) : MV → Option MV
  | .ptr k g off => match mem k with
    | some (g', cs) => if g' = g then (cut cs off n).bind (mkAgg ag) else none
    | none => none
  | .dat (.ptr ds) => (cut (ds.map .dat) 0 n).bind (mkAgg ag)
  | _ => none

def lensM : MV → Option Nat
  | .dat (.str s) => some s.length
  | _ => none

def pickM : MV → MV → MV → Option MV
  | .dat (.bool t), a, b => some (if t = true then a else b)
  | _, _, _ => none

def bslM (z : List MV) (sz len : Nat) (x : Option (List MV)) : Option MV :=
  if z.length = len * sz then (match x with
    | some cs => (cs.mapM datOf).map fun ds => .dat (.sl (chunk sz len ds))
    | none => none) else none

def aggC : MV → Option (List MV)
  | .agg cs => some cs
  | .dat (.agg ds) => some (ds.map .dat)
  | _ => none

def eqsM (neg : Bool) (ks : List Nat) (a b : MV) : Option MV := match aggC a, aggC b with
  | some x, some y => (match eqCells ks x y with
    | some c => some (.dat (.bool (neg != c)))
    | none => none)
  | _, _ => none

def convM (k : IntKind) : MV → Option MV
  | .dat (.int _ n) => some (.dat (.int k (k.wrap n)))
  | _ => none

def nchkM : MV → Option MV
  | .ptr k g off => some (.ptr k g off)
  | .dat (.ptr ds) => some (.dat (.ptr ds))
  | _ => none

def fadM (off : Nat) : MV → Option MV
  | .ptr k g o => some (.ptr k g (o + off))
  | .dat (.ptr ds) => if off ≤ ds.length then some (.dat (.ptr (ds.drop off))) else none
  | _ => none

def fldM (off n : Nat) (ag : Bool) : MV → Option MV
  | .agg cs => (cut cs off n).bind (mkAgg ag)
  | .dat (.agg ds) => (cut (ds.map .dat) off n).bind (mkAgg ag)
  | _ => none

def iadM (sz n : Nat) : MV → Option MV
  | .ref k g sz' off len => if n < len ∧ sz' = sz then some (.ptr k g (off + n * sz)) else none
  | .dat (.sl es) => match es[n]? with
    | some e => if e.length = sz then some (.dat (.ptr e)) else none
    | none => none
  | _ => none

def iadaM (len sz n : Nat) : MV → Option MV
  | .ptr k g off => if n < len then some (.ptr k g (off + n * sz)) else none
  | .dat (.ptr ds) => if n < len ∧ n * sz ≤ ds.length then some (.dat (.ptr (ds.drop (n * sz)))) else none
  | _ => none

def idxsM (n : Nat) : MV → Option MV
  | .dat (.str s) => (s[n]?).map fun b => .dat (.int .u8 b.toNat)
  | _ => none

/-- elements of sz cells -/
def evenE (sz : Nat) (es : List (List Data)) : Bool := es.all fun e => e.length == sz

def slcM (sz l h : Nat) : MV → Option MV
  | .dat (.sl es) => if l ≤ h ∧ h ≤ es.length ∧ evenE sz es = true then some (.dat (.sl ((es.take h).drop l))) else none
  | .nil => if l = 0 ∧ h = 0 then some .nil else none
  | .ref k g sz' off len => if sz' = sz ∧ l ≤ h ∧ h ≤ len then some (.ref k g sz (off + l * sz) (h - l)) else none
  | _ => none

def slc3M (sz l h m : Nat) : MV → Option MV
  | .dat (.sl es) => if l ≤ h ∧ h ≤ m ∧ m ≤ es.length ∧ evenE sz es = true then (if m = l then some .nil else some (.dat (.sl ((es.take h).drop l)))) else none
  | .nil => if l = 0 ∧ h = 0 ∧ m = 0 then some .nil else none
  | .ref _ _ _ _ len => if l ≤ h ∧ h ≤ m ∧ m ≤ len ∧ m = l then some .nil else none
  | _ => none

def slcsM (l h : Nat) : MV → Option MV
  | .dat (.str s) => if l ≤ h ∧ h ≤ s.length then some (.dat (.str ((s.take h).drop l))) else none
  | _ => none

def extM (i : Nat) : MV → Option MV
  | .tup vs => vs[i]?
  | .dat (.tup ds) => (ds[i]?).map .dat
  | _ => none

def mmM (mx : Bool) : MV → MV → Option MV
  | .dat (.int k a), .dat (.int k' b) => if k = k' then some (.dat (.int k (if mx = true then (if b > a then b else a) else (if b < a then b else a)))) else none
  | _, _ => none

def bind1 (x : Option Nat) (f : Nat → Option MV) : Option MV := match x with
  | some n => f n
  | none => none

/-- Operations on values alone. -/
def qop (tm : Nat → MV) : MOp → Option MV
  | .mv x => some (ev tm x)
  | .pick c a b => pickM (ev tm c) (ev tm a) (ev tm b)
  | .build z parts => (fillM (ev tm) z parts).map .agg
  | .bsl _ false z sz len parts => bslM z sz len (fillM (ev tm) z parts)
  | .bin op x y => binM op (ev tm x) (ev tm y)
  | .beq neg x y => beqM neg (ev tm x) (ev tm y)
  | .eqs neg ks x y => eqsM neg ks (ev tm x) (ev tm y)
  | .un op x => unM op (ev tm x)
  | .conv k x => convM k (ev tm x)
  | .nchk x => nchkM (ev tm x)
  | .fad off x => fadM off (ev tm x)
  | .fld off n ag x => fldM off n ag (ev tm x)
  | .iad sz x i => bind1 (idx (ev tm i)) fun n => iadM sz n (ev tm x)
  | .iada len sz x i => bind1 (idx (ev tm i)) fun n => iadaM len sz n (ev tm x)
  | .idxs x i => bind1 (idx (ev tm i)) fun n => idxsM n (ev tm x)
  | .slc sz x lo hi none => bind1 (idxO 0 (lo.map (ev tm))) fun l => bind1 (lenM (ev tm x)) fun len => bind1 (idxO len (hi.map (ev tm))) fun h => slcM sz l h (ev tm x)
  | .slc sz x lo (some hi) (some mx) => bind1 (idxO 0 (lo.map (ev tm))) fun l => bind1 (idx (ev tm hi)) fun h => bind1 (idx (ev tm mx)) fun m => slc3M sz l h m (ev tm x)
  | .slcs x lo hi => bind1 (idxO 0 (lo.map (ev tm))) fun l => bind1 (lensM (ev tm x)) fun len => bind1 (idxO len (hi.map (ev tm))) fun h => slcsM l h (ev tm x)
  | .ext i x => extM i (ev tm x)
  | .len x => bind1 (lenM (ev tm x)) fun n => some (.dat (.int .i64 n))
  | .lens x => bind1 (lensM (ev tm x)) fun n => some (.dat (.int .i64 n))
  | .mm mx x y => mmM mx (ev tm x) (ev tm y)
  | .mkfn f caps => some (.clo f (caps.map (ev tm)))
  | _ => none

def slcaC (k : Key) (g off len sz l h : Nat) : Option (Nat × List MV) → Option MV
  | some (g', cs) => if g' = g ∧ l ≤ h ∧ h ≤ len ∧ off + len * sz ≤ cs.length then some (.ref k g sz (off + l * sz) (h - l)) else none
  | none => none

/-- A slice of an array behind a pointer. -/
def slcaM (mem : Mem) (len sz l h : Nat) : MV → Option MV
  | .ptr k g off => slcaC k g off len sz l h (mem k)
  | _ => none

/-- What a slice holds: how many elements, and their cells. -/
def rowM (mem : Mem) (sz : Nat) : MV → Option (Nat × List MV)
  | .dat (.sl es) => if evenE sz es = true then some (es.length, es.flatten.map MV.dat) else none
  | .nil => some (0, [])
  | .ref k g sz' off len => if sz' = sz then (match mem k with
    | some (g', cs) => if g' = g then (cut cs off (len * sz)).map fun cs => (len, cs) else none
    | none => none) else none
  | _ => none

/-- A value, and the block that changes: its key, its generation, its cells. -/
abbrev Out := Option (MV × Option (Key × Nat × List MV))

def mapN (x : Option MV) : Out := match x with
  | some m => some (m, none)
  | none => none

def bsloM (k : Key) (g : Nat) (z : List MV) (sz len : Nat) (x : Option (List MV)) : Out :=
  if z.length = len * sz then (match x with
    | some cs => some (.ref k g sz 0 len, some (k, g, cs))
    | none => none) else none

def mkslM (k : Key) (g : Nat) (z : List MV) (bytes : Nat) (n c : Nat) : Out :=
  if n = c ∧ bytes * n ≤ 140737488355328 ∧ n ≤ maxLen then some (.ref k g z.length 0 n, some (k, g, (List.replicate n z).flatten)) else none

def bind2 (x y : Option Nat) (f : Nat → Nat → Out) : Out := match x, y with
  | some n, some m => f n m
  | _, _ => none

def storeC (n : Nat) (k : Key) (g off : Nat) (v : List MV) (x : Option (Nat × List MV)) : Out := match x with
  | some (g', cs) => if g' = g ∧ v.length = n ∧ off + n ≤ cs.length ∧ v.all MV.one = true then some (.no, some (k, g, splice cs off v)) else none
  | none => none

def storeM (mem : Mem) (n : Nat) : MV → List MV → Out
  | .ptr k g off, v => storeC n k g off v (mem k)
  | _, _ => none

def appC (k : Key) (g : Nat) (sz len bytes : Nat) (m : Nat) (new : List MV) (x : Option (Nat × List MV)) : Out := match x with
  | some (g', cs) => if g' = g ∧ len * sz ≤ cs.length ∧ (len + m) * bytes ≤ 140737488355328 ∧ len + m ≤ maxLen ∧ new.all MV.one = true
      then some (.ref k (g + 1) sz 0 (len + m), some (k, g + 1, cs.take (len * sz) ++ new)) else none
  | none => none

/-- append: onto nothing, or onto a row of the call's own, which it leaves for a later generation. -/
def appM (mem : Mem) (k : Key) (z : List MV) (bytes : Nat) : MV → Option (Nat × List MV) → Out
  | .nil, some (m, new) => if m * bytes ≤ 140737488355328 ∧ m ≤ maxLen ∧ new.all MV.one = true then some (.ref k (nextG mem k) z.length 0 m, some (k, nextG mem k, new)) else none
  | .ref k' g sz' off len, some (m, new) => if sz' = z.length ∧ off = 0 then appC k' g sz' len bytes m new (mem k') else none
  | _, _ => none

def cpyC (k : Key) (g sz off len : Nat) (m : Nat) (new : List MV) (x : Option (Nat × List MV)) : Out := match x with
  | some (g', cs) => if g' = g ∧ off + len * sz ≤ cs.length ∧ new.all MV.one = true then some (.dat (.int .i64 ((min m len : Nat) : Int)), some (k, g, splice cs off (new.take (min m len * sz)))) else none
  | none => none

def cpyM (mem : Mem) (sz : Nat) : MV → Option (Nat × List MV) → Out
  | .ref k g sz' off len, some (m, new) => if sz' = sz then cpyC k g sz off len m new (mem k) else none
  | _, _ => none

/-- An operation that calls nothing. -/
def sop (mem : Mem) (tm : Nat → MV) : MOp → Out
  | .alloc k z => some (.ptr k (nextG mem k) 0, some (k, nextG mem k, z))
  | .box k x => if (ev tm x).known = true then some (.ptr k (nextG mem k) 0, some (k, nextG mem k, (ev tm x).cells)) else none
  | .bsl k true z sz len parts => bsloM k (nextG mem k) z sz len (fillM (ev tm) z parts)
  | .mksl k z bytes len cap => bind2 (idx (ev tm len)) (idx (ev tm cap)) (mkslM k (nextG mem k) z bytes)
  | .load n ag x => mapN (loadM mem n ag (ev tm x))
  | .slca len sz x lo hi none => mapN (bind1 (idxO 0 (lo.map (ev tm))) fun l => bind1 (idxO len (hi.map (ev tm))) fun h => slcaM mem len sz l h (ev tm x))
  | .store n x v => storeM mem n (ev tm x) (ev tm v).cells
  | .app k z bytes s x => appM mem k z bytes (ev tm s) (rowM mem z.length (ev tm x))
  | .cpy sz d x => cpyM mem sz (ev tm d) (rowM mem sz (ev tm x))
  | op => mapN (qop tm op)

/-- What a call does: it hands back r, and the memory is as it was; or a new slice of its own making, of these elements; or whatever R lets. -/
inductive Eff where
  | same (r : Data)
  | own (sz : Nat) (es : List (List Data))
  | rel (R : MV → Mem → Prop)

/-- What functions do: by the values of their arguments and the memory. -/
abbrev Tab := FuncId → List MV → Mem → Option Eff

def updO (mem : Mem) : Option (Key × Nat × List MV) → Mem
  | none => mem
  | some (k, g, cs) => updM mem k g cs

def callK (T : Tab) (K : St → Prop) (st : St) (dst : Option Nat) (f : FuncId) (args : List MV) : Prop :=
  match T f args st.mem with
  | some (.same r) => K ⟨put st.tm dst (.dat r), st.mem⟩
  | some (.own _ es) => K ⟨put st.tm dst (.dat (.sl es)), st.mem⟩
  | some (.rel R) => ∀ r mem', R r mem' → K ⟨put st.tm dst r, mem'⟩
  | none => False

/-- A slice: has it elements, so that it is surely not nil? -/
def fullM : MV → Option Bool
  | .dat (.sl es) => some (!es.isEmpty)
  | .nil => some false
  | .ref _ _ _ _ len => some (decide (0 < len))
  | _ => none

/-- One operation. -/
def stepK (T : Tab) (K : St → Prop) (i : MI) (st : St) : Prop :=
  match i.op with
  | .call f args => callK T K st i.dst f (args.map (ev st.tm))
  | .callo k sz f args => match T f (args.map (ev st.tm)) st.mem with
    | some (.own sz' es) => if sz' = sz then K ⟨put st.tm i.dst (.ref k (nextG st.mem k) sz 0 es.length), updM st.mem k (nextG st.mem k) (es.flatten.map .dat)⟩ else False
    | _ => False
  | .callv f args => match ev st.tm f with
    | .clo g caps => callK T K st i.dst g (args.map (ev st.tm) ++ caps)
    | .dat (.fn g ds) => callK T K st i.dst g (args.map (ev st.tm) ++ ds.map .dat)
    | _ => False
  | .isnil neg x => match fullM (ev st.tm x) with
    | some full => ∀ b : Bool, (full = true → b = false) → K ⟨put st.tm i.dst (.dat (.bool (neg != b))), st.mem⟩
    | none => False
  | op => match sop st.mem st.tm op with
    | some (m, e) => K ⟨put st.tm i.dst m, updO st.mem e⟩
    | none => False

/-- Is an operation carried out? -/
def guardB (tm : Nat → MV) : Option (Nat × Bool) → Option Bool
  | none => some true
  | some (s, b) => match tm s with
    | .dat (.bool t) => some (t == b)
    | .no => some false
    | _ => none

/-- The operations of a region, one after the other. -/
def wpr (T : Tab) (K : St → Prop) : List MI → St → Prop
  | [], st => K st
  | i :: r, st => match guardB st.tm i.g with
    | none => False
    | some g => if g = true then stepK T (wpr T K r) i st else wpr T K r ⟨put st.tm i.dst .no, st.mem⟩

/-! ### Regions that leave their order open -/
def keyOf : MV → List Key
  | .ref k .. => [k]
  | .ptr k .. => [k]
  | _ => []

/-- The blocks that an operation looks at, or changes. -/
def foot (tm : Nat → MV) : MOp → List Key
  | .load _ _ x => keyOf (ev tm x)
  | .slca _ _ x _ _ _ => keyOf (ev tm x)
  | .store _ x _ => keyOf (ev tm x)
  | .alloc k _ => [k]
  | .box k _ => [k]
  | .bsl k true _ _ _ _ => [k]
  | .mksl k _ _ _ _ => [k]
  | .callo k _ _ _ => [k]
  | .app k _ _ s x => k :: (keyOf (ev tm s) ++ keyOf (ev tm x))
  | .cpy _ d x => keyOf (ev tm d) ++ keyOf (ev tm x)
  | _ => []

/-- Does it change a block? -/
def wrs : MOp → Bool
  | .store .. => true
  | .alloc .. => true
  | .box .. => true
  | .bsl _ true _ _ _ _ => true
  | .mksl .. => true
  | .callo .. => true
  | .app .. => true
  | .cpy .. => true
  | _ => false

/-- What a call sees in a region whose order is open: data alone. -/
def shut : MV → MV
  | .dat d => .dat d
  | .nil => .nil
  | .clo f [] => .clo f []
  | .agg cs => match cs.mapM datOf with
    | some ds => .dat (.agg ds)
    | none => .undef
  | _ => .undef

/-- An operation in a region whose order is open: a call does not see the own blocks. -/
def sopD (T : Tab) (mem : Mem) (tm : Nat → MV) : MOp → Option (MV × Option (Key × Nat × List MV))
  | .call f args => match T f (args.map fun x => shut (ev tm x)) emp with
    | some (.same r) => some (.dat r, none)
    | some (.own _ es) => some (.dat (.sl es), none)
    | _ => none
  | .callo k sz f args => match T f (args.map fun x => shut (ev tm x)) emp with
    | some (.own sz' es) => if sz' = sz then some (.ref k (nextG mem k) sz 0 es.length, some (k, nextG mem k, es.flatten.map .dat)) else none
    | _ => none
  | .callv .. => none
  | .isnil .. => none
  | op => sop mem tm op

/-- What has been looked at and changed so far, operation by operation. -/
abbrev Rec := Nat → Option (Bool × List Key)

def apartK (a b : Bool × List Key) : Bool := !(a.1 || b.1) || a.2.all fun k => !b.2.contains k

def chkR (rec : Rec) (p : Bool × List Key) (c : List Nat) : Bool := c.all fun i => match rec i with
  | none => true
  | some q => apartK q p

def updR (rec : Rec) (n : Nat) (p : Bool × List Key) : Rec := fun i => if i = n then some p else rec i

def wprD (T : Tab) (K : St → Prop) : Nat → List MI → List (List Nat) → Rec → St → Prop
  | _, [], _, _, st => K st
  | n, i :: r, cs, rec, st => match guardB st.tm i.g with
    | none => False
    | some g => if g = true then (match sopD T st.mem st.tm i.op with
        | some (m, e) => chkR rec (wrs i.op, foot st.tm i.op) (cs.headD []) = true ∧ wprD T K (n + 1) r cs.tail (updR rec n (wrs i.op, foot st.tm i.op)) ⟨put st.tm i.dst m, updO st.mem e⟩
        | none => False) else wprD T K (n + 1) r cs.tail rec ⟨put st.tm i.dst .no, st.mem⟩

/-! ### Code -/
inductive MExit where
  | normal
  | exit (id : Nat)
  | ret

/-- A snapshot of a value as data. -/
def toD : Nat → Mem → MV → Option Data
  | _, _, .dat d => some d
  | _, _, .nil => some (.sl [])
  | 0, _, _ => none
  | n + 1, mem, .ref k g sz off len => match mem k with
    | some (g', cs) => if g' = g then (match cut cs off (len * sz) with
      | some part => (part.mapM (toD n mem)).map fun ds => .sl (chunk sz len ds)
      | none => none) else none
    | none => none
  | n + 1, mem, .ptr k g off => match mem k with
    | some (g', cs) => if g' = g ∧ off ≤ cs.length then ((cs.drop off).mapM (toD n mem)).map .ptr else none
    | none => none
  | n + 1, mem, .clo f cs => (cs.mapM (toD n mem)).map (.fn f)
  | n + 1, mem, .agg cs => (cs.mapM (toD n mem)).map .agg
  | n + 1, mem, .tup cs => (cs.mapM (toD n mem)).map .tup
  | _, _, .no => none
  | _, _, .undef => none

/-- A block given up: what it holds stays for ever. -/
def kill (mem : Mem) (k : Key) : Mem := updM mem k (nextG mem k) []

/-- Cells that refer to nothing own. -/
def allDat (cs : List MV) : Bool := cs.all fun m => (datOf m).isSome

def ghostK (K : St → Prop) (st : St) : Ghost → Prop
  | .adopt s k sz => match st.tm s with
    | .nil => K ⟨upd st.tm s (.ref k (nextG st.mem k) sz 0 0), updM st.mem k (nextG st.mem k) []⟩
    | _ => False
  | .adoptC x i k sz => match ev st.tm x with
    | .ptr kc g off => match st.mem kc with
      | some (g', cs) => if g' = g then (match cs[off + i]? with
        | some .nil => if k ≠ kc then K ⟨st.tm, updM (updM st.mem k (nextG st.mem k) []) kc g (cs.set (off + i) (.ref k (nextG st.mem k) sz 0 0))⟩ else False
        | _ => False) else False
      | none => False
    | _ => False
  | .freeze s => match st.tm s with
    | .ref k g _ _ _ => match st.mem k with
      | some (g', cs) => if g' = g ∧ allDat cs = true then (match toD 1 st.mem (st.tm s) with
        | some d => K ⟨upd st.tm s (.dat d), kill st.mem k⟩
        | none => False) else False
      | none => False
    | _ => False
  | .freezeC x i => match ev st.tm x with
    | .ptr kc gc off => match st.mem kc with
      | some (gc', cc) => if gc' = gc then (match cc[off + i]? with
        | some (.ref k g sz o len) => match st.mem k with
          | some (g', cs) => if g' = g ∧ allDat cs = true ∧ k ≠ kc then (match toD 1 st.mem (.ref k g sz o len) with
            | some d => K ⟨st.tm, updM (kill st.mem k) kc gc (cc.set (off + i) (.dat d))⟩
            | none => False) else False
          | none => False
        | _ => False) else False
      | none => False
    | _ => False

def wp (T : Tab) : MCode → (MExit → St → Prop) → St → Prop
  | .skip, K, st => K .normal st
  | .ops l, K, st => wpr T (K .normal) l st
  | .opsD l c, K, st => wprD T (K .normal) 0 l c (fun _ => none) st
  | .seq a b, K, st => wp T a (fun e st' => match e with
    | .normal => wp T b K st'
    | e => K e st') st
  | .cond c a b, K, st => match ev st.tm c with
    | .dat (.bool t) => if t = true then wp T a K st else wp T b K st
    | _ => False
  | .block id c, K, st => wp T c (fun e st' => match e with
    | .exit j => if j = id then K .normal st' else K (.exit j) st'
    | e => K e st') st
  | .loop c, K, st => ∃ (I : St → Prop) (μ : St → Nat), I st ∧ ∀ st, I st → wp T c (fun e st' => match e with
    | .normal => I st' ∧ μ st' < μ st
    | e => K e st') st
  | .exit id, K, st => K (.exit id) st
  | .ret, K, st => K .ret st
  | .ghost g c, K, st => ghostK (wp T c K) st g

/-- The results. -/
def resM (st : St) : MRes → Option MV
  | .t s => some (st.tm s)
  | .cell s n ag => loadM st.mem n ag (st.tm s)

def resAll (st : St) (l : List MRes) : Option MV :=
  match l.mapM (resM st) with
  | some [m] => some m
  | some ms => some (.tup ms)
  | none => none

def initTm (args : List MV) : Nat → MV := fun s => match args[s]? with
  | some m => m
  | none => .no

end Go.Mini
