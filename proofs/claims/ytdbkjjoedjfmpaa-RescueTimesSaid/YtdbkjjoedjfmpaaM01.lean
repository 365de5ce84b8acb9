/- A part of the proof. -/
import Derived.Calls
import Derived.Still
import Derived.Below
import Derived.Laws.World
import Derived.Laws.Sem
import Derived.Laws.Entries
import Derived.Laws.Rows
import GoSem.ClaimData
import Derived.Laws.CopyRow
import Derived.Laws.MakeOwn
import Derived.Laws.Append
import Derived.Laws.AppendOwn
import Derived.Laws.Strings
import Derived.Laws.Strings2
import Derived.Laws.StructEq
import Derived.Laws.Slices
import Derived.Laws.Cells
set_option linter.unusedSimpArgs false
set_option linter.unusedVariables false
open List renaming flatten_cons → Tc, length_append → Td, replicate → Tj, mapM_cons → Tk, drop_eq_nil_of_le → Ts, drop_eq_getElem_cons → Tt, getElem?_eq_getElem → Tu, getElem?_map → Tv, getElem?_append → Tw, getElem?_take → Tx, range → TA, getElem?_eq_none → TB, take_append → TE, take_of_length_le → TF, getElem_mem → TH, mem_of_mem_take → TI, drop_take → TK, replicate_succ → TM, length_take → TO
open Nat renaming add_mul → Te, one_mul → Tf, le_refl → Tg, le_trans → Th, lt_of_lt_of_le → Ti, lt_or_ge → Tr, add_assoc → Ty, zero_add → Tz, succ_mul → TC, mul_le_mul_right → TD, eq_or_lt_of_le → TG, sub_self → TJ, add_zero → TL, min_eq_left → TN
open Option renaming pure_def → Tm, bind_eq_bind → Tn, bind_eq_some_iff → To, map_eq_some_iff → Tp
open Bool renaming false_eq_true → Tq
namespace Go.Mini
open Go
abbrev Key:=Nat
inductive Data where
 | int (k:IntKind) (n:Int)
 | bool (b:Bool)
 | str (s:List UInt8)
 | sl (es:List (List Data))
 | ptr (cs:List Data)
 | nilp
 | fn (f:FuncId) (caps:List Data)
 | nilf
 | agg (cs:List Data)
 | tup (vs:List Data)
 deriving Inhabited
inductive MV where
 | dat (d:Data)
 | nil
 | ref (k:Key) (g sz off len:Nat)
 | ptr (k:Key) (g off:Nat)
 | clo (f:FuncId) (caps:List MV)
 | agg (cs:List MV)
 | tup (vs:List MV)
 | no
 | undef
 deriving Inhabited
inductive Den (w:World) (O:Nat→Prop):Data→Value→Prop
 | int {k:IntKind} {n:Int}:Den w O (.int k n) (.int k n)
 | bool {b:Bool}:Den w O (.bool b) (.bool b)
 | str {s:List UInt8}:Den w O (.str s) (.string ⟨s.toArray⟩)
 | sl0 {a:Option Addr} {c:Nat}:Den w O (.sl []) (.slice a 0 c)
 | sl {es:List (List Data)} {b off c sz:Nat} (val:Nat→Value) (hl:es.length≤c) (hm:es.length≤maxLen) (hb:b<w.heap.size) (hO:¬ O b) (hsz:∀ e∈es,e.length=sz)
   (hc:∀ i,i<es.length*sz→w.cell? ⟨b,off+i,none⟩=some (val i)) (hd:∀ i d,es.flatten[i]?=some d→Den w O d (val i)) :
   Den w O (.sl es) (.slice (some ⟨b,off,none⟩) es.length c)
 | ptr {cs:List Data} {b off:Nat} (val:Nat→Value) (hb:b<w.heap.size) (hO:¬ O b)
   (hc:∀ i,i<cs.length→w.cell? ⟨b,off+i,none⟩=some (val i)) (hd:∀ i d,cs[i]?=some d→Den w O d (val i)) :
   Den w O (.ptr cs) (.pointer (some ⟨b,off,none⟩))
 | nilp:Den w O .nilp (.pointer none)
 | fn {f:FuncId} {caps:List Data} {vs:List Value} (hl:vs.length=caps.length) (hd:∀ (i:Nat) (d:Data) (v:Value),caps[i]?=some d→vs[i]?=some v→Den w O d v) :
   Den w O (.fn f caps) (.func (.func f) #[] vs.toArray)
 | nilf:Den w O .nilf .nilFunc
 | agg {cs:List Data} {vs:List Value} (hl:vs.length=cs.length) (hd:∀ (i:Nat) (d:Data) (v:Value),cs[i]?=some d→vs[i]?=some v→Den w O d v) :
   Den w O (.agg cs) (.agg vs.toArray)
 | tup {cs:List Data} {vs:List Value} (hl:vs.length=cs.length) (hd:∀ (i:Nat) (d:Data) (v:Value),cs[i]?=some d→vs[i]?=some v→Den w O d v) :
   Den w O (.tup cs) (.tuple vs.toArray)
theorem iN {es:List (List Data)} {sz:Nat} (h:∀ e∈es,e.length=sz):es.flatten.length=es.length*sz:=by
 induction es with
 | nil=>simp
 | cons e r ih =>
  have h1:=h e (by simp);have h2:=ih (fun x hx=>h x (by simp [hx]));rw[Tc,Td,h1,h2,List.length_cons,Te,Tf,Nat.add_comm]
theorem Den.keep {w w':World} {O O':Nat→Prop} (hs:w.heap.size≤w'.heap.size) (h:∀ b,b<w.heap.size→¬ O b→w'.heap[b]?=w.heap[b]?∧¬ O' b) {d:Data} {v:Value} (hd:Den w O d v):Den w' O' d v:=by
 induction hd with
 | int=>exact .int
 | bool=>exact .bool
 | str=>exact .str
 | sl0=>exact .sl0
 | @sl es b off c sz val hl hm hb hO hsz hc hd ih =>
  obtain⟨h1,h2⟩:=h b hb hO;exact .sl val hl hm (by omega) h2 hsz (fun i hi=>(World.cell?_of_block (a:=⟨b,off+i,none⟩) h1).trans (hc i hi)) ih
 | nilp=>exact .nilp
 | nilf=>exact .nilf
 | @ptr cs b off val hb hO hc hd ih =>
  obtain⟨h1,h2⟩:=h b hb hO;exact .ptr val (by omega) h2 (fun i hi=>(World.cell?_of_block (a:=⟨b,off+i,none⟩) h1).trans (hc i hi)) ih
 | fn hl hd ih=>exact .fn hl ih
 | agg hl hd ih=>exact .agg hl ih
 | tup hl hd ih=>exact .tup hl ih
structure Bk where
 g:Nat
 blk:Option Nat
 size:Nat
abbrev Lay:=Key→Option Bk
def Own (B:Lay) (b:Nat):Prop:=∃ k e,B k=some e∧e.blk=some b
def RefOK (e:Bk) (g sz off len:Nat) (v:Value):Prop :=
 ∃ a cap,v = .slice a len cap∧len≤cap∧cap≤maxLen∧(cap=0∨∃ b,a=some ⟨b,off,none⟩∧(g=e.g→e.blk=some b∧off+cap*sz≤e.size))
def PtrOK (e:Bk) (g off:Nat) (v:Value):Prop:=∃ b,v = .pointer (some ⟨b,off,none⟩)∧(g=e.g→e.blk=some b)
theorem RefOK.later {e e':Bk} {g sz off len:Nat} {v:Value} (h:RefOK e g sz off len v) (hl:g<e'.g):RefOK e' g sz off len v:=by
 obtain⟨a,cap,h1,h2,h3,h4⟩:=h;refine⟨a,cap,h1,h2,h3,h4.imp id ?_⟩;rintro⟨b,h5,_⟩;exact⟨b,h5,fun h=>by omega⟩
theorem PtrOK.later {e e':Bk} {g off:Nat} {v:Value} (h:PtrOK e g off v) (hl:g<e'.g):PtrOK e' g off v:=by
 obtain⟨b,h1,_⟩:=h;exact⟨b,h1,fun h=>by omega⟩
inductive VR (w:World) (O:Nat→Prop) (B:Lay):MV→Value→Prop
 | dat {d:Data} {v:Value} (h:Den w O d v):VR w O B (.dat d) v
 | nil {a:Option Addr}:VR w O B .nil (.slice a 0 0)
 | ref {k:Key} {g sz off len:Nat} {e:Bk} {v:Value} (he:B k=some e) (hg:g≤e.g) (hv:RefOK e g sz off len v):VR w O B (.ref k g sz off len) v
 | ptr {k:Key} {g off:Nat} {e:Bk} {v:Value} (he:B k=some e) (hg:g≤e.g) (hv:PtrOK e g off v):VR w O B (.ptr k g off) v
 | clo {f:FuncId} {caps:List MV} {vs:List Value} (hl:vs.length=caps.length) (hd:∀ (i:Nat) (d:MV) (v:Value),caps[i]?=some d→vs[i]?=some v→VR w O B d v) :
   VR w O B (.clo f caps) (.func (.func f) #[] vs.toArray)
 | agg {cs:List MV} {vs:List Value} (hl:vs.length=cs.length) (hd:∀ (i:Nat) (d:MV) (v:Value),cs[i]?=some d→vs[i]?=some v→VR w O B d v) :
   VR w O B (.agg cs) (.agg vs.toArray)
 | tup {cs:List MV} {vs:List Value} (hl:vs.length=cs.length) (hd:∀ (i:Nat) (d:MV) (v:Value),cs[i]?=some d→vs[i]?=some v→VR w O B d v) :
   VR w O B (.tup cs) (.tuple vs.toArray)
 | no:VR w O B .no undef
 | undef {v:Value}:VR w O B .undef v
def OA (A:Nat→Prop) (B:Lay) (b:Nat):Prop:=Own B b∨A b
structure Trans (A:Nat→Prop) (w:World) (B:Lay) (w':World) (B':Lay):Prop where
 size:w.heap.size≤w'.heap.size
 old:∀ b,b<w.heap.size→¬ OA A B b→w'.heap[b]?=w.heap[b]?∧¬ Own B' b
 key:∀ k e,B k=some e→∃ e',B' k=some e'∧(e'=e∨e.g<e'.g)
theorem Trans.refl (A:Nat→Prop) (w:World) (B:Lay):Trans A w B w B :=
 ⟨Tg _,fun _ _ h=>⟨rfl,fun ho=>h (.inl ho)⟩,fun _ e he=>⟨e,he,.inl rfl⟩⟩
theorem Trans.trans {A:Nat→Prop} {w w1 w2:World} {B B1 B2:Lay} (h:Trans A w B w1 B1) (h':Trans A w1 B1 w2 B2):Trans A w B w2 B2:=by
 refine⟨Th h.size h'.size,fun b hb ho=>?_,fun k e he=>?_⟩
 ·obtain⟨h1,h2⟩:=h.old b hb ho
  obtain⟨h3,h4⟩:=h'.old b (Ti hb h.size) (fun hx=>hx.elim h2 fun ha=>ho (.inr ha));exact⟨h3.trans h1,h4⟩
 ·obtain⟨e1,he1,hh⟩:=h.key k e he
  obtain⟨e2,he2,hh2⟩:=h'.key k e1 he1;refine⟨e2,he2,?_⟩;rcases hh with rfl | hh<;>rcases hh2 with rfl | hh2
  ·exact .inl rfl
  ·exact .inr hh2
  ·exact .inr hh
  ·exact .inr (Nat.lt_trans hh hh2)
theorem Den.trans {A:Nat→Prop} {w w':World} {B B':Lay} (t:Trans A w B w' B') {d:Data} {v:Value} (h:Den w (OA A B) d v):Den w' (OA A B') d v :=
 h.keep t.size fun b hb ho=>⟨(t.old b hb ho).1,fun hx=>hx.elim (t.old b hb ho).2 fun ha=>ho (.inr ha)⟩
theorem VR.keep {A:Nat→Prop} {w w':World} {B B':Lay} (t:Trans A w B w' B') {m:MV} {v:Value} (h:VR w (OA A B) B m v):VR w' (OA A B') B' m v:=by
 induction h with
 | dat h=>exact .dat (h.trans t)
 | nil=>exact .nil
 | @ref k g sz off len e v he hg hv =>
  obtain⟨e',he',hh⟩:=t.key k e he;rcases hh with rfl | hh
  ·exact .ref he' hg hv
  ·exact .ref he' (by omega) (hv.later (by omega))
 | @ptr k g off e v he hg hv =>
  obtain⟨e',he',hh⟩:=t.key k e he;rcases hh with rfl | hh
  ·exact .ptr he' hg hv
  ·exact .ptr he' (by omega) (hv.later (by omega))
 | clo hl hd ih=>exact .clo hl ih
 | agg hl hd ih=>exact .agg hl ih
 | tup hl hd ih=>exact .tup hl ih
 | no=>exact .no
 | undef=>exact .undef
abbrev Mem:=Key→Option (Nat × List MV)
def emp:Mem:=fun _=>none
def aA (m:Mem) (k:Key) (g:Nat) (cs:List MV):Mem:=fun j=>if j=k then some (g,cs) else m j
def aD (m:Mem) (k:Key):Nat:=match m k with
 | none=>0
 | some (g,_)=>g+1
structure MemRel (A:Nat→Prop) (w:World) (B:Lay) (mem:Mem):Prop where
 dom:∀ k,mem k=none→B k=none
 inj:∀ k k' e e' b,B k=some e→B k'=some e'→e.blk=some b→e'.blk=some b→k=k'
 sep:∀ b,A b→¬ Own B b
 lt:∀ b,A b→b<w.heap.size
 blk:∀ k g cs,mem k=some (g,cs)→∃ e,B k=some e∧e.g=g∧(e.blk=none→cs=[]) ∧
  ∀ b,e.blk=some b→∃ vs T,w.heap[b]?=some (.cells vs T (0,0))∧vs.size=e.size∧cs.length≤vs.size ∧
   ∀ (i:Nat) (m:MV),cs[i]?=some m→∃ v,vs[i]?=some v∧VR w (OA A B) B m v
theorem MemRel.own_lt {A:Nat→Prop} {w:World} {B:Lay} {mem:Mem} (h:MemRel A w B mem) {b:Nat} (hb:Own B b):b<w.heap.size:=by
 obtain⟨k,e,he,hb⟩:=hb
 cases hm:mem k with
 | none=>rw[h.dom k hm] at he;cases he
 | some x =>
  obtain⟨g,cs⟩:=x;obtain⟨e',he',_,_,hh⟩:=h.blk k g cs hm;rw[he'] at he
  cases he;obtain⟨vs,T,hv,_⟩:=hh b hb;exact (Array.getElem?_eq_some_iff.1 hv).1
structure Fr (O0:Nat→Prop) (w0 w:World):Prop where
 os:w.os=w0.os
 tape:w.tape=w0.tape
 output:w.output=w0.output
 size:w0.heap.size≤w.heap.size
 block:∀ g,g<w0.heap.size→¬ O0 g→w.heap[g]?=w0.heap[g]?
theorem Fr.refl (O0:Nat→Prop) (w:World):Fr O0 w w:=⟨rfl,rfl,rfl,Tg _,fun _ _ _=>rfl⟩
theorem Fr.drew {O0:Nat→Prop} {w0 w:World} (h:Fr O0 w0 w) (n:Nat):Fr O0 w0 { w with drawn:=n }:=⟨h.os,h.tape,h.output,h.size,h.block⟩
theorem Fr.alloc {O0:Nat→Prop} {w0 w:World} (h:Fr O0 w0 w) (o:Obj):Fr O0 w0 (w.alloc o) :=
 ⟨h.os,h.tape,h.output,by simp;have:=h.size;omega,fun g hg hO=>(RowKit.Below.heap_alloc w o g (by have:=h.size;omega)).trans (h.block g hg hO)⟩
theorem Fr.below {w0 w:World} (h:Fr (fun _=>False) w0 w):RowKit.Below w0.heap.size w0 w:=⟨h.os,h.tape,h.output,h.size,fun g hg=>h.block g hg id⟩
inductive Opd where
 | t (s:Nat)
 | c (m:MV)
 deriving Inhabited
inductive MOp where
 | mv (x:Opd)
 | pick (c a b:Opd)
 | alloc (k:Key) (z:List MV)
 | box (k:Key) (x:Opd)
 | build (z:List MV) (parts:List (Nat × Nat × Opd))
 | bsl (k:Key) (own:Bool) (z:List MV) (sz len:Nat) (parts:List (Nat × Nat × Opd))
 | load (n:Nat) (ag:Bool) (x:Opd)
 | store (n:Nat) (x v:Opd)
 | bin (op:BinOp) (x y:Opd)
 | beq (neg:Bool) (x y:Opd)
 | eqs (neg:Bool) (ks:List Nat) (x y:Opd)
 | isnil (neg:Bool) (x:Opd)
 | un (op:UnOp) (x:Opd)
 | conv (k:IntKind) (x:Opd)
 | nchk (x:Opd)
 | mksl (k:Key) (z:List MV) (bytes:Nat) (len cap:Opd)
 | fad (off:Nat) (x:Opd)
 | fld (off n:Nat) (ag:Bool) (x:Opd)
 | iad (sz:Nat) (x i:Opd)
 | iada (len sz:Nat) (x i:Opd)
 | idxs (x i:Opd)
 | slc (sz:Nat) (x:Opd) (lo hi mx:Option Opd)
 | slca (len sz:Nat) (x:Opd) (lo hi mx:Option Opd)
 | slcs (x:Opd) (lo hi:Option Opd)
 | ext (i:Nat) (x:Opd)
 | len (x:Opd)
 | lens (x:Opd)
 | app (k:Key) (z:List MV) (bytes:Nat) (s x:Opd)
 | cpy (sz:Nat) (d x:Opd)
 | mm (mx:Bool) (x y:Opd)
 | call (f:FuncId) (args:List Opd)
 | callo (k:Key) (sz:Nat) (f:FuncId) (args:List Opd)
 | callv (f:Opd) (args:List Opd)
 | callm (lo:Nat) (f:FuncId) (args:List Opd)
 | mkfn (f:FuncId) (caps:List Opd)
 | bad
 deriving Inhabited
structure MI where
 dst:Option Nat
 g:Option (Nat × Bool)
 op:MOp
 deriving Inhabited
inductive Ghost where
 | adopt (s:Nat) (k:Key) (sz:Nat)
 | adoptC (x:Opd) (i:Nat) (k:Key) (sz:Nat)
 | freeze (s:Nat)
 | freezeC (x:Opd) (i:Nat)
 | move
 | many
 deriving Inhabited
inductive MCode where
 | skip
 | ops (l:List MI)
 | opsD (l:List MI) (c:List (List Nat))
 | seq (a b:MCode)
 | cond (c:Opd) (a b:MCode)
 | block (id:Nat) (c:MCode)
 | loop (c:MCode)
 | exit (id:Nat)
 | ret
 | ghost (g:Ghost) (c:MCode)
 deriving Inhabited
inductive nw where
 | t (s:Nat)
 | cell (s n:Nat) (ag:Bool)
 deriving Inhabited
structure MFunc where
 n:Nat
 np:Nat
 res:List nw
 body:MCode
 deriving Inhabited
structure St where
 tm:Nat→MV
 mem:Mem
def upd (tm:Nat→MV) (s:Nat) (m:MV):Nat→MV:=fun t=>if t=s then m else tm t
def put (tm:Nat→MV):Option Nat→MV→Nat→MV
 | some s,m=>upd tm s m
 | none,_=>tm
@[simp] theorem aH (tm:Nat→MV) (s:Nat) (m:MV) (t:Nat):upd tm s m t=if t=s then m else tm t:=rfl
def ev (tm:Nat→MV):Opd→MV
 | .t s=>tm s
 | .c m=>m
def MV.cells:MV→List MV
 | .agg cs=>cs
 | .dat (.agg ds)=>ds.map .dat
 | m=>[m]
def MV.known:MV→Bool
 | .undef=>false
 | _=>true
def MV.one:MV→Bool
 | .dat (.agg _)=>false
 | .dat (.tup _)=>false
 | .dat _=>true
 | .nil=>true
 | .ref ..=>true
 | .ptr ..=>true
 | .clo ..=>true
 | _=>false
def kR (ag:Bool) (cs:List MV):Option MV :=
 if ag=true then some (.agg cs) else match cs with
  | [m]=>some m
  | _=>none
def cut (cs:List MV) (off n:Nat):Option (List MV) :=
 if off+n≤cs.length then some ((cs.drop off).take n) else none
def splice (cs:List MV) (off:Nat) (new:List MV):List MV:=cs.take off++new++cs.drop (off+new.length)
def fg (ev:Opd→MV) (cells:List MV):List (Nat × Nat × Opd)→Option (List MV)
 | []=>some cells
 | (off,size,x)::rest =>
  if (ev x).known=true∧(ev x).cells.length=size∧off+size≤cells.length then fg ev (splice cells off (ev x).cells) rest else none
def tO:MV→Option Data
 | .dat d=>some d
 | .nil=>some (.sl [])
 | _=>none
def chunk (sz:Nat):Nat→List Data→List (List Data)
 | 0,_=>[]
 | n+1,l=>l.take sz::chunk sz n (l.drop sz)
def LI (op:BinOp) (k:IntKind) (a b:Int):Option Data :=
 match op with
 | .add=>some (.int k (k.wrap (a+b)))
 | .sub=>some (.int k (k.wrap (a-b)))
 | .mul=>some (.int k (k.wrap (a*b)))
 | .quo=>if b=0 then none else some (.int k (k.wrap (a.tdiv b)))
 | .rem=>if b=0 then none else some (.int k (a.tmod b))
 | .and=>some (.int k (bits .and k a b))
 | .or=>some (.int k (bits .or k a b))
 | .xor=>some (.int k (bits .xor k a b))
 | .andNot=>some (.int k (bits .andNot k a b))
 | .eql=>some (.bool (a==b))
 | .neq=>some (.bool (a != b))
 | .lss=>some (.bool (a<b))
 | .leq=>some (.bool (a≤b))
 | .gtr=>some (.bool (a>b))
 | .geq=>some (.bool (a≥b))
 | _=>none
def shI (op:BinOp) (k:IntKind) (a b:Int):Option Data :=
 if b<0 then none else match op with
 | .shl=>some (.int k (k.wrap (a*2^(min b.toNat k.bits))))
 | .shr=>some (.int k (a.fdiv (2^(min b.toNat k.bits))))
 | _=>none
def KP (op:BinOp) (a b:List UInt8):Option Data :=
 match op with
 | .add=>if a.length+b.length≤maxLen then some (.str (a++b)) else none
 | .eql=>some (.bool (a==b))
 | .neq=>some (.bool (!(a==b)))
 | .lss=>some (.bool (Op.bytesLess a b))
 | .leq=>some (.bool (Op.bytesLess a b||a==b))
 | .gtr=>some (.bool (!(Op.bytesLess a b||a==b)))
 | .geq=>some (.bool (!Op.bytesLess a b))
 | _=>none
def oK:BinOp→Bool
 | .shl=>true
 | .shr=>true
 | _=>false
def J7 (op:BinOp) (x y:MV):Option MV :=
 match x,y with
 | .dat (.int k a),.dat (.int k' b)=>if oK op=true then (shI op k a b).map .dat else if k=k' then (LI op k a b).map .dat else none
 | .dat (.str a),.dat (.str b)=>(KP op a b).map .dat
 | _,_=>none
def If (neg:Bool):MV→MV→Option MV
 | .dat (.bool a),.dat (.bool b)=>some (.dat (.bool (neg != (a==b))))
 | _,_=>none
def yw:Nat→MV→MV→Option Bool
 | 0,.dat (.bool a),.dat (.bool b)=>some (a==b)
 | 1,.dat (.int k a),.dat (.int k' b)=>if k=k' then some (a==b) else none
 | 2,.dat (.str a),.dat (.str b)=>some (a==b)
 | _,_,_=>none
def lh:List Nat→List MV→List MV→Option Bool
 | [],[],[]=>some true
 | k::ks,a::x,b::y=>match yw k a b,lh ks x y with
  | some c,some d=>some (c&&d)
  | _,_=>none
 | _,_,_=>none
def unM (op:UnOp) (x:MV):Option MV :=
 match op,x with
 | .neg,.dat (.int k n)=>some (.dat (.int k (k.wrap (0-n))))
 | .xor,.dat (.int k n)=>some (.dat (.int k (bits .xor k (if k.signed then -1 else k.max) n)))
 | .not,.dat (.bool b)=>some (.dat (.bool !b))
 | _,_=>none
def idx:MV→Option Nat
 | .dat (.int _ n)=>if 0≤n then some n.toNat else none
 | _=>none
def iV (d:Nat):Option MV→Option Nat
 | none=>some d
 | some x=>idx x
def oO:MV→Option Nat
 | .dat (.sl es)=>some es.length
 | .nil=>some 0
 | .ref _ _ _ _ n=>some n
 | _=>none
def ka (mem:Mem) (n:Nat) (ag:Bool):MV→Option MV
 | .ptr k g off=>match mem k with
  | some (g',cs)=>if g'=g then (cut cs off n).bind (kR ag) else none
  | none=>none
 | .dat (.ptr ds)=>(cut (ds.map .dat) 0 n).bind (kR ag)
 | _=>none
def qC:MV→Option Nat
 | .dat (.str s)=>some s.length
 | _=>none
def wJ:MV→MV→MV→Option MV
 | .dat (.bool t),a,b=>some (if t=true then a else b)
 | _,_,_=>none
def Ju (z:List MV) (sz len:Nat) (x:Option (List MV)):Option MV :=
 if z.length=len*sz then (match x with
  | some cs=>(cs.mapM tO).map fun ds => .dat (.sl (chunk sz len ds))
  | none=>none) else none
def HL:MV→Option (List MV)
 | .agg cs=>some cs
 | .dat (.agg ds)=>some (ds.map .dat)
 | _=>none
def Ih (neg:Bool) (ks:List Nat) (a b:MV):Option MV:=match HL a,HL b with
 | some x,some y=>(match lh ks x y with
  | some c=>some (.dat (.bool (neg != c)))
  | none=>none)
 | _,_=>none
def BL (k:IntKind):MV→Option MV
 | .dat (.int _ n)=>some (.dat (.int k (k.wrap n)))
 | _=>none
def Aj:MV→Option MV
 | .ptr k g off=>some (.ptr k g off)
 | .dat (.ptr ds)=>some (.dat (.ptr ds))
 | _=>none
def Ic (off:Nat):MV→Option MV
 | .ptr k g o=>some (.ptr k g (o+off))
 | .dat (.ptr ds)=>if off≤ds.length then some (.dat (.ptr (ds.drop off))) else none
 | _=>none
def Km (off n:Nat) (ag:Bool):MV→Option MV
 | .agg cs=>(cut cs off n).bind (kR ag)
 | .dat (.agg ds)=>(cut (ds.map .dat) off n).bind (kR ag)
 | _=>none
def xn (sz n:Nat):MV→Option MV
 | .ref k g sz' off len=>if n<len∧sz'=sz then some (.ptr k g (off+n*sz)) else none
 | .dat (.sl es)=>match es[n]? with
  | some e=>if e.length=sz then some (.dat (.ptr e)) else none
  | none=>none
 | _=>none
def Ae (len sz n:Nat):MV→Option MV
 | .ptr k g off=>if n<len then some (.ptr k g (off+n*sz)) else none
 | .dat (.ptr ds)=>if n<len∧n*sz≤ds.length then some (.dat (.ptr (ds.drop (n*sz)))) else none
 | _=>none
def AB (n:Nat):MV→Option MV
 | .dat (.str s)=>(s[n]?).map fun b => .dat (.int .u8 b.toNat)
 | _=>none
def oS (sz:Nat) (es:List (List Data)):Bool:=es.all fun e=>e.length==sz
def IL (sz l h:Nat):MV→Option MV
 | .dat (.sl es)=>if l≤h∧h≤es.length∧oS sz es=true then some (.dat (.sl ((es.take h).drop l))) else none
 | .nil=>if l=0∧h=0 then some .nil else none
 | .ref k g sz' off len=>if sz'=sz∧l≤h∧h≤len then some (.ref k g sz (off+l*sz) (h-l)) else none
 | _=>none
def Br (sz l h m:Nat):MV→Option MV
 | .dat (.sl es)=>if l≤h∧h≤m∧m≤es.length∧oS sz es=true then (if m=l then some .nil else some (.dat (.sl ((es.take h).drop l)))) else none
 | .nil=>if l=0∧h=0∧m=0 then some .nil else none
 | .ref _ _ _ _ len=>if l≤h∧h≤m∧m≤len∧m=l then some .nil else none
 | _=>none
def BO (l h:Nat):MV→Option MV
 | .dat (.str s)=>if l≤h∧h≤s.length then some (.dat (.str ((s.take h).drop l))) else none
 | _=>none
def H7 (i:Nat):MV→Option MV
 | .tup vs=>vs[i]?
 | .dat (.tup ds)=>(ds[i]?).map .dat
 | _=>none
def mmM (mx:Bool):MV→MV→Option MV
 | .dat (.int k a),.dat (.int k' b)=>if k=k' then some (.dat (.int k (if mx=true then (if b>a then b else a) else (if b<a then b else a)))) else none
 | _,_=>none
def dE (x:Option Nat) (f:Nat→Option MV):Option MV:=match x with
 | some n=>f n
 | none=>none
def qop (tm:Nat→MV):MOp→Option MV
 | .mv x=>some (ev tm x)
 | .pick c a b=>wJ (ev tm c) (ev tm a) (ev tm b)
 | .build z parts=>(fg (ev tm) z parts).map .agg
 | .bsl _ false z sz len parts=>Ju z sz len (fg (ev tm) z parts)
 | .bin op x y=>J7 op (ev tm x) (ev tm y)
 | .beq neg x y=>If neg (ev tm x) (ev tm y)
 | .eqs neg ks x y=>Ih neg ks (ev tm x) (ev tm y)
 | .un op x=>unM op (ev tm x)
 | .conv k x=>BL k (ev tm x)
 | .nchk x=>Aj (ev tm x)
 | .fad off x=>Ic off (ev tm x)
 | .fld off n ag x=>Km off n ag (ev tm x)
 | .iad sz x i=>dE (idx (ev tm i)) fun n=>xn sz n (ev tm x)
 | .iada len sz x i=>dE (idx (ev tm i)) fun n=>Ae len sz n (ev tm x)
 | .idxs x i=>dE (idx (ev tm i)) fun n=>AB n (ev tm x)
 | .slc sz x lo hi none=>dE (iV 0 (lo.map (ev tm))) fun l=>dE (oO (ev tm x)) fun len=>dE (iV len (hi.map (ev tm))) fun h=>IL sz l h (ev tm x)
 | .slc sz x lo (some hi) (some mx)=>dE (iV 0 (lo.map (ev tm))) fun l=>dE (idx (ev tm hi)) fun h=>dE (idx (ev tm mx)) fun m=>Br sz l h m (ev tm x)
 | .slcs x lo hi=>dE (iV 0 (lo.map (ev tm))) fun l=>dE (qC (ev tm x)) fun len=>dE (iV len (hi.map (ev tm))) fun h=>BO l h (ev tm x)
 | .ext i x=>H7 i (ev tm x)
 | .len x=>dE (oO (ev tm x)) fun n=>some (.dat (.int .i64 n))
 | .lens x=>dE (qC (ev tm x)) fun n=>some (.dat (.int .i64 n))
 | .mm mx x y=>mmM mx (ev tm x) (ev tm y)
 | .mkfn f caps=>some (.clo f (caps.map (ev tm)))
 | _=>none
def Kq (k:Key) (g off len sz l h:Nat):Option (Nat × List MV)→Option MV
 | some (g',cs)=>if g'=g∧l≤h∧h≤len∧off+len*sz≤cs.length then some (.ref k g sz (off+l*sz) (h-l)) else none
 | none=>none
def se (mem:Mem) (len sz l h:Nat):MV→Option MV
 | .ptr k g off=>Kq k g off len sz l h (mem k)
 | _=>none
def oN (mem:Mem) (sz:Nat):MV→Option (Nat × List MV)
 | .dat (.sl es)=>if oS sz es=true then some (es.length,es.flatten.map MV.dat) else none
 | .nil=>some (0,[])
 | .ref k g sz' off len=>if sz'=sz then (match mem k with
  | some (g',cs)=>if g'=g then (cut cs off (len*sz)).map fun cs=>(len,cs) else none
  | none=>none) else none
 | _=>none
abbrev Out:=Option (MV × Option (Key × Nat × List MV))
def iB (x:Option MV):Out:=match x with
 | some m=>some (m,none)
 | none=>none
def vV (k:Key) (g:Nat) (z:List MV) (sz len:Nat) (x:Option (List MV)):Out :=
 if z.length=len*sz then (match x with
  | some cs=>some (.ref k g sz 0 len,some (k,g,cs))
  | none=>none) else none
def ws (k:Key) (g:Nat) (z:List MV) (bytes:Nat) (n c:Nat):Out :=
 if n=c∧bytes*n≤140737488355328∧n≤maxLen then some (.ref k g z.length 0 n,some (k,g,(Tj n z).flatten)) else none
def zo (x y:Option Nat) (f:Nat→Nat→Out):Out:=match x,y with
 | some n,some m=>f n m
 | _,_=>none
def tS (n:Nat) (k:Key) (g off:Nat) (v:List MV) (x:Option (Nat × List MV)):Out:=match x with
 | some (g',cs)=>if g'=g∧v.length=n∧off+n≤cs.length∧v.all MV.one=true then some (.no,some (k,g,splice cs off v)) else none
 | none=>none
def lH (mem:Mem) (n:Nat):MV→List MV→Out
 | .ptr k g off,v=>tS n k g off v (mem k)
 | _,_=>none
def lg (k:Key) (g:Nat) (sz len bytes:Nat) (m:Nat) (new:List MV) (x:Option (Nat × List MV)):Out:=match x with
 | some (g',cs)=>if g'=g∧len*sz≤cs.length∧(len+m)*bytes≤140737488355328∧len+m≤maxLen∧new.all MV.one=true
   then some (.ref k (g+1) sz 0 (len+m),some (k,g+1,cs.take (len*sz)++new)) else none
 | none=>none
def pt (mem:Mem) (k:Key) (z:List MV) (bytes:Nat):MV→Option (Nat × List MV)→Out
 | .nil,some (m,new)=>if m*bytes≤140737488355328∧m≤maxLen∧new.all MV.one=true then some (.ref k (aD mem k) z.length 0 m,some (k,aD mem k,new)) else none
 | .ref k' g sz' off len,some (m,new)=>if sz'=z.length∧off=0 then lg k' g sz' len bytes m new (mem k') else none
 | _,_=>none
def AL (k:Key) (g sz off len:Nat) (m:Nat) (new:List MV) (x:Option (Nat × List MV)):Out:=match x with
 | some (g',cs)=>if g'=g∧off+len*sz≤cs.length∧new.all MV.one=true then some (.dat (.int .i64 ((min m len:Nat):Int)),some (k,g,splice cs off (new.take (min m len*sz)))) else none
 | none=>none
def uQ (mem:Mem) (sz:Nat):MV→Option (Nat × List MV)→Out
 | .ref k g sz' off len,some (m,new)=>if sz'=sz then AL k g sz off len m new (mem k) else none
 | _,_=>none
def sop (mem:Mem) (tm:Nat→MV):MOp→Out
 | .alloc k z=>some (.ptr k (aD mem k) 0,some (k,aD mem k,z))
 | .box k x=>if (ev tm x).known=true then some (.ptr k (aD mem k) 0,some (k,aD mem k,(ev tm x).cells)) else none
 | .bsl k true z sz len parts=>vV k (aD mem k) z sz len (fg (ev tm) z parts)
 | .mksl k z bytes len cap=>zo (idx (ev tm len)) (idx (ev tm cap)) (ws k (aD mem k) z bytes)
 | .load n ag x=>iB (ka mem n ag (ev tm x))
 | .slca len sz x lo hi none=>iB (dE (iV 0 (lo.map (ev tm))) fun l=>dE (iV len (hi.map (ev tm))) fun h=>se mem len sz l h (ev tm x))
 | .store n x v=>lH mem n (ev tm x) (ev tm v).cells
 | .app k z bytes s x=>pt mem k z bytes (ev tm s) (oN mem z.length (ev tm x))
 | .cpy sz d x=>uQ mem sz (ev tm d) (oN mem sz (ev tm x))
 | op=>iB (qop tm op)
inductive Eff where
 | same (r:Data)
 | own (sz:Nat) (es:List (List Data))
 | rel (R:MV→Mem→Prop)
 | upd (r:Data) (k:Key) (g i:Nat) (c:MV)
abbrev Tab:=FuncId→List MV→Mem→Option Eff
def ig (mem:Mem):Option (Key × Nat × List MV)→Mem
 | none=>mem
 | some (k,g,cs)=>aA mem k g cs
def fG (mem:Mem) (k:Key):List MV:=match mem k with
 | some (_,cs)=>cs
 | none=>[]
def nt (T:Tab) (K:St→Prop) (st:St) (dst:Option Nat) (f:FuncId) (args:List MV):Prop :=
 match T f args st.mem with
 | some (.same r)=>K ⟨put st.tm dst (.dat r),st.mem⟩
 | some (.own _ es)=>K ⟨put st.tm dst (.dat (.sl es)),st.mem⟩
 | some (.rel R)=>∀ r mem',R r mem'→K ⟨put st.tm dst r,mem'⟩
 | some (.upd r k g i c)=>K ⟨put st.tm dst (.dat r),aA st.mem k g ((fG st.mem k).set i c)⟩
 | none=>False
def uT:MV→Option Bool
 | .dat (.sl es)=>some (!es.isEmpty)
 | .nil=>some false
 | .ref _ _ _ _ len=>some (decide (0<len))
 | _=>none
def cQ (T:Tab) (K:St→Prop) (i:MI) (st:St):Prop :=
 match i.op with
 | .call f args=>nt T K st i.dst f (args.map (ev st.tm))
 | .callo k sz f args=>match T f (args.map (ev st.tm)) st.mem with
  | some (.own sz' es)=>if sz'=sz then K ⟨put st.tm i.dst (.ref k (aD st.mem k) sz 0 es.length),aA st.mem k (aD st.mem k) (es.flatten.map .dat)⟩ else False
  | _=>False
 | .callv f args=>match ev st.tm f with
  | .clo g caps=>nt T K st i.dst g (args.map (ev st.tm)++caps)
  | .dat (.fn g ds)=>nt T K st i.dst g (args.map (ev st.tm)++ds.map .dat)
  | _=>False
 | .isnil neg x=>match uT (ev st.tm x) with
  | some full=>∀ b:Bool,(full=true→b=false)→K ⟨put st.tm i.dst (.dat (.bool (neg != b))),st.mem⟩
  | none=>False
 | op=>match sop st.mem st.tm op with
  | some (m,e)=>K ⟨put st.tm i.dst m,ig st.mem e⟩
  | none=>False
def fT (tm:Nat→MV):Option (Nat × Bool)→Option Bool
 | none=>some true
 | some (s,b)=>match tm s with
  | .dat (.bool t)=>some (t==b)
  | .no=>some false
  | _=>none
def wpr (T:Tab) (K:St→Prop):List MI→St→Prop
 | [],st=>K st
 | i::r,st=>match fT st.tm i.g with
  | none=>False
  | some g=>if g=true then cQ T (wpr T K r) i st else wpr T K r ⟨put st.tm i.dst .no,st.mem⟩
def eT:MV→List Key
 | .ref k ..=>[k]
 | .ptr k ..=>[k]
 | _=>[]
inductive FK where
 | wh (k:Key)
 | rd (k:Key) (a b:Nat)
 | wr (k:Key) (i:Nat)
def FK.key:FK→Key
 | .wh k=>k
 | .rd k _ _=>k
 | .wr k _=>k
def iy:FK→FK→Bool
 | .wh k,.wh k' => !(k==k')
 | .wh k,.rd k' _ _ => !(k==k')
 | .rd k _ _,.wh k' => !(k==k')
 | .rd _ _ _,.rd _ _ _=>true
 | .rd k a b,.wr k' i => !(k==k')||(decide (i<a)||decide (b≤i))
 | .wr k' i,.rd k a b => !(k==k')||(decide (i<a)||decide (b≤i))
 | .wr _ _,.wr _ _=>false
 | .wh _,.wr _ _=>false
 | .wr _ _,.wh _=>false
def vM (n:Nat):MV→List FK
 | .ref k ..=>[.wh k]
 | .ptr k _ off=>[.rd k off (off+n)]
 | _=>[]
def Am (lo:Nat):List MV→List FK
 | .ptr k _ off::_=>[.wr k (off+lo)]
 | _=>[]
def foot (tm:Nat→MV):MOp→List FK
 | .load n _ x=>vM n (ev tm x)
 | .slca _ _ x _ _ _=>(eT (ev tm x)).map .wh
 | .store _ x _=>(eT (ev tm x)).map .wh
 | .alloc k _=>[.wh k]
 | .box k _=>[.wh k]
 | .bsl k true _ _ _ _=>[.wh k]
 | .mksl k _ _ _ _=>[.wh k]
 | .callo k _ _ _=>[.wh k]
 | .app k _ _ s x => .wh k::((eT (ev tm s)).map .wh++(eT (ev tm x)).map .wh)
 | .cpy _ d x=>(eT (ev tm d)).map .wh++(eT (ev tm x)).map .wh
 | .callm lo _ args=>Am lo (args.map (ev tm))
 | _=>[]
def wrs:MOp→Bool
 | .store ..=>true
 | .alloc ..=>true
 | .box ..=>true
 | .bsl _ true _ _ _ _=>true
 | .mksl ..=>true
 | .callo ..=>true
 | .app ..=>true
 | .cpy ..=>true
 | .callm ..=>true
 | _=>false
def shut:MV→MV
 | .dat d => .dat d
 | .nil => .nil
 | .clo f [] => .clo f []
 | .agg cs=>match cs.mapM tO with
  | some ds => .dat (.agg ds)
  | none => .undef
 | _ => .undef
def F7 (lo:Nat) (mem:Mem):List MV→Option Eff→Option (MV × Option (Key × Nat × List MV))
 | .ptr k _ off::_,some (.upd r k' g' i c)=>match mem k with
  | some (g,cs)=>if k'=k∧g'=g∧i=off+lo then some (.dat r,some (k,g,cs.set i c)) else none
  | none=>none
 | _,_=>none
def iK (T:Tab) (mem:Mem) (tm:Nat→MV):MOp→Option (MV × Option (Key × Nat × List MV))
 | .call f args=>match T f (args.map fun x=>shut (ev tm x)) emp with
  | some (.same r)=>some (.dat r,none)
  | some (.own _ es)=>some (.dat (.sl es),none)
  | _=>none
 | .callo k sz f args=>match T f (args.map fun x=>shut (ev tm x)) emp with
  | some (.own sz' es)=>if sz'=sz then some (.ref k (aD mem k) sz 0 es.length,some (k,aD mem k,es.flatten.map .dat)) else none
  | _=>none
 | .callv ..=>none
 | .isnil ..=>none
 | .callm lo f args=>F7 lo mem (args.map (ev tm)) (T f (args.map (ev tm)) mem)
 | op=>sop mem tm op
abbrev Rec:=Nat→Option (Bool × List FK)
def iw (a b:Bool × List FK):Bool:=!(a.1||b.1)||a.2.all fun x=>b.2.all fun y=>iy x y
def Fy (rec:Rec) (p:Bool × List FK) (c:List Nat):Bool:=c.all fun i=>match rec i with
 | none=>true
 | some q=>iw q p
def su (rec:Rec) (n:Nat) (p:Bool × List FK):Rec:=fun i=>if i=n then some p else rec i
def tp (T:Tab) (K:St→Prop):Nat→List MI→List (List Nat)→Rec→St→Prop
 | _,[],_,_,st=>K st
 | n,i::r,cs,rec,st=>match fT st.tm i.g with
  | none=>False
  | some g=>if g=true then (match iK T st.mem st.tm i.op with
    | some (m,e)=>Fy rec (wrs i.op,foot st.tm i.op) (cs.headD [])=true∧tp T K (n+1) r cs.tail (su rec n (wrs i.op,foot st.tm i.op)) ⟨put st.tm i.dst m,ig st.mem e⟩
    | none=>False) else tp T K (n+1) r cs.tail rec ⟨put st.tm i.dst .no,st.mem⟩
inductive bH where
 | normal
 | exit (id:Nat)
 | ret
def toD:Nat→Mem→MV→Option Data
 | _,_,.dat d=>some d
 | _,_,.nil=>some (.sl [])
 | 0,_,_=>none
 | n+1,mem,.ref k g sz off len=>match mem k with
  | some (g',cs)=>if g'=g then (match cut cs off (len*sz) with
   | some part=>(part.mapM (toD n mem)).map fun ds => .sl (chunk sz len ds)
   | none=>none) else none
  | none=>none
 | n+1,mem,.ptr k g off=>match mem k with
  | some (g',cs)=>if g'=g∧off≤cs.length then ((cs.drop off).mapM (toD n mem)).map .ptr else none
  | none=>none
 | n+1,mem,.clo f cs=>(cs.mapM (toD n mem)).map (.fn f)
 | n+1,mem,.agg cs=>(cs.mapM (toD n mem)).map .agg
 | n+1,mem,.tup cs=>(cs.mapM (toD n mem)).map .tup
 | _,_,.no=>none
 | _,_,.undef=>none
def kill (mem:Mem) (k:Key):Mem:=aA mem k (aD mem k) []
def lI (cs:List MV):Bool:=cs.all fun m=>(tO m).isSome
inductive MoveS (mem:Mem):Mem→Prop
 | mref (kx gx:Nat) (cx:List MV) (i k g sz off len:Nat) (cs:List MV) (k':Nat) (h1:mem kx=some (gx,cx)) (h2:cx[i]?=some (.ref k g sz off len)) (h3:mem k=some (g,cs)) (h4:k≠kx) (h5:k'≠k) (h6:k'≠kx) :
   MoveS mem (aA (aA (aA mem k (aD mem k) []) k' (aD mem k') cs) kx gx (cx.set i (.ref k' (aD mem k') sz off len)))
 | mptr (kx gx:Nat) (cx:List MV) (i k g off:Nat) (cs:List MV) (k':Nat) (h1:mem kx=some (gx,cx)) (h2:cx[i]?=some (.ptr k g off)) (h3:mem k=some (g,cs)) (h4:k≠kx) (h5:k'≠k) (h6:k'≠kx) :
   MoveS mem (aA (aA (aA mem k (aD mem k) []) k' (aD mem k') cs) kx gx (cx.set i (.ptr k' (aD mem k') off)))
 | mfrz (kx gx:Nat) (cx:List MV) (i k g sz off len:Nat) (cs:List MV) (d:Data) (h1:mem kx=some (gx,cx)) (h2:cx[i]?=some (.ref k g sz off len)) (h3:mem k=some (g,cs)) (h4:k≠kx) (h5:toD 1 mem (.ref k g sz off len)=some d) :
   MoveS mem (aA (kill mem k) kx gx (cx.set i (.dat d)))
inductive Moves:Mem→Mem→Prop
 | refl (mem:Mem):Moves mem mem
 | step {mem mem1 mem2:Mem} (h:MoveS mem mem1) (h':Moves mem1 mem2):Moves mem mem2
def dP (K:St→Prop) (st:St):Ghost→Prop
 | .adopt s k sz=>match st.tm s with
  | .nil=>K ⟨upd st.tm s (.ref k (aD st.mem k) sz 0 0),aA st.mem k (aD st.mem k) []⟩
  | _=>False
 | .adoptC x i k sz=>match ev st.tm x with
  | .ptr kc g off=>match st.mem kc with
   | some (g',cs)=>if g'=g then (match cs[off+i]? with
    | some .nil=>if k≠kc then K ⟨st.tm,aA (aA st.mem k (aD st.mem k) []) kc g (cs.set (off+i) (.ref k (aD st.mem k) sz 0 0))⟩ else False
    | _=>False) else False
   | none=>False
  | _=>False
 | .freeze s=>match st.tm s with
  | .ref k g _ _ _=>match st.mem k with
   | some (g',cs)=>if g'=g∧lI cs=true then (match toD 1 st.mem (st.tm s) with
    | some d=>K ⟨upd st.tm s (.dat d),kill st.mem k⟩
    | none=>False) else False
   | none=>False
  | _=>False
 | .freezeC x i=>match ev st.tm x with
  | .ptr kc gc off=>match st.mem kc with
   | some (gc',cc)=>if gc'=gc then (match cc[off+i]? with
    | some (.ref k g sz o len)=>match st.mem k with
     | some (g',cs)=>if g'=g∧lI cs=true∧k≠kc then (match toD 1 st.mem (.ref k g sz o len) with
      | some d=>K ⟨st.tm,aA (kill st.mem k) kc gc (cc.set (off+i) (.dat d))⟩
      | none=>False) else False
     | none=>False
    | _=>False) else False
   | none=>False
  | _=>False
 | .move=>K st∨(∃ kx gx cx i k g sz off len cs k',st.mem kx=some (gx,cx)∧cx[i]?=some (.ref k g sz off len)∧st.mem k=some (g,cs)∧k≠kx∧k'≠k∧k'≠kx ∧
   K ⟨st.tm,aA (aA (aA st.mem k (aD st.mem k) []) k' (aD st.mem k') cs) kx gx (cx.set i (.ref k' (aD st.mem k') sz off len))⟩) ∨
   ∃ kx gx cx i k g sz off len cs d,st.mem kx=some (gx,cx)∧cx[i]?=some (.ref k g sz off len)∧st.mem k=some (g,cs)∧lI cs=true∧k≠kx∧toD 1 st.mem (.ref k g sz off len)=some d ∧
   K ⟨st.tm,aA (kill st.mem k) kx gx (cx.set i (.dat d))⟩
 | .many=>∃ mem',Moves st.mem mem'∧K ⟨st.tm,mem'⟩
def wp (T:Tab):MCode→(bH→St→Prop)→St→Prop
 | .skip,K,st=>K .normal st
 | .ops l,K,st=>wpr T (K .normal) l st
 | .opsD l c,K,st=>tp T (K .normal) 0 l c (fun _=>none) st
 | .seq a b,K,st=>wp T a (fun e st'=>match e with
  | .normal=>wp T b K st'
  | e=>K e st') st
 | .cond c a b,K,st=>match ev st.tm c with
  | .dat (.bool t)=>if t=true then wp T a K st else wp T b K st
  | _=>False
 | .block id c,K,st=>wp T c (fun e st'=>match e with
  | .exit j=>if j=id then K .normal st' else K (.exit j) st'
  | e=>K e st') st
 | .loop c,K,st=>∃ (I:St→Prop) (μ:St→Nat),I st∧∀ st,I st→wp T c (fun e st'=>match e with
  | .normal=>I st'∧μ st'<μ st
  | e=>K e st') st
 | .exit id,K,st=>K (.exit id) st
 | .ret,K,st=>K .ret st
 | .ghost g c,K,st=>dP (wp T c K) st g
def Ha (st:St):nw→Option MV
 | .t s=>some (st.tm s)
 | .cell s n ag=>ka st.mem n ag (st.tm s)
def gy (st:St) (l:List nw):Option MV :=
 match l.mapM (Ha st) with
 | some [m]=>some m
 | some ms=>some (.tup ms)
 | none=>none
def ax (args:List MV):Nat→MV:=fun s=>match args[s]? with
 | some m=>m
 | none => .no
def Jm:Value→Option MV
 | .int k n=>some (.dat (.int k n))
 | .bool b=>some (.dat (.bool b))
 | .string s=>some (.dat (.str s.data.toList))
 | .slice none 0 0=>some .nil
 | .pointer none=>some (.dat .nilp)
 | .nilFunc=>some (.dat .nilf)
 | _=>none
def cst:Value→Option MV
 | .agg cs=>(cs.toList.mapM Jm).map .agg
 | v=>Jm v
def bq:Operand→Option Opd
 | .tmp t=>some (.t t)
 | .const v=>(cst v).map .c
 | .func f=>some (.c (.clo f []))
 | .global _=>none
def g8 (P:Program) (t:TypeId):Option (List MV):=((P.info? t).bind (·.zero)).bind fun z=>z.cells.toList.mapM Jm
def cN (P:Program) (t:TypeId):Option Nat:=(P.info? t).map (·.size)
def rt (P:Program) (t:TypeId):Option Nat:=(P.info? t).map (·.bytes)
def xq (P:Program) (t:TypeId):Option Bool:=(P.underlying t).map fun | .struct _=>true | .array _ _=>true | _=>false
def iQ (place:Nat→Option (Nat × Nat)) (l:List (Nat × Operand)):Option (List (Nat × Nat × Opd)) :=
 l.mapM fun (i,x)=>do
  let (o,s) ←place i
  let y ←bq x
  pure (o,s,y)
def dq (P:Program) (fs:Array Field) (i:Nat):Option (Nat × Nat):=do
 let f ←fs[i]?
 let s ←cN P f.type
 pure (f.offset,s)
def Bu (P:Program) (t:TypeId):Option Nat :=
 match P.underlying t with
 | some .bool=>some 0
 | some (.int _)=>some 1
 | some .string=>some 2
 | _=>none
def jx (P:Program):Nat→List Field→Option (List Nat)
 | _,[]=>some []
 | i, f :: r => if f.name ≠ "_" ∧ f.offset = i then (match Bu P f.type, jx P (i + 1) r with
  | some k,some ks=>some (k::ks)
  | _,_=>none) else none
def qP (P:Program) (t:TypeId) (fs:Array Field) (neg:Bool) (x y:Operand):Option MOp :=
 if P.stoodInHeld t=false∧P.eqGuardType P.depth t=false then (match jx P 0 fs.toList,bq x,bq y with
  | some ks,some x,some y=>some (.eqs neg ks x y)
  | _,_,_=>none) else none
def C2:Operand→Bool
 | .const (.slice none 0 0)=>true
 | _=>false
def vi (P:Program) (op:BinOp) (t:TypeId) (x y:Operand):Option MOp :=
 match P.underlying t with
 | some (.int _)=>match bq x,bq y with
  | some x,some y=>some (.bin op x y)
  | _,_=>none
 | some .string=>match bq x,bq y with
  | some x,some y=>some (.bin op x y)
  | _,_=>none
 | some .bool=>match op,bq x,bq y with
  | .eql,some x,some y=>some (.beq false x y)
  | .neq,some x,some y=>some (.beq true x y)
  | _,_,_=>none
 | some (.struct fs)=>match op with
  | .eql=>qP P t fs false x y
  | .neq=>qP P t fs true x y
  | _=>none
 | some (.slice _)=>if C2 y=true then (match op with
  | .eql=>(bq x).map (.isnil false)
  | .neq=>(bq x).map (.isnil true)
  | _=>none) else none
 | _=>none
def jg:Option Operand→Option (Option Opd)
 | none=>some none
 | some x=>(bq x).map some
def nE (P:Program) (kb:Nat) (own:List Nat) (dst:Option Nat) (type:TypeId) (c:Call):Option MOp :=
 match c.callee,c.args.toList,c.argTypes.toList with
 | .builtin .len,[x],[t]=>match P.underlying t with
  | some (.slice _)=>(bq x).map .len
  | some .string=>(bq x).map .lens
  | _=>none
 | .builtin .append,[s,x],[t,u]=>match P.underlying t,P.underlying u with
  | some (.slice e),some (.slice _)=>do
   let z ←g8 P e
   let b ←rt P e
   let n ←cN P e
   let d ←dst
   let s ←bq s
   let x ←bq x
   if z.length=n∧0<n∧t=u then pure (.app (kb+d) z b s x) else none
  | _,_=>none
 | .builtin .copy,[d,x],[t,u]=>match P.underlying t,P.underlying u with
  | some (.slice e),some (.slice _)=>do
   let n ←cN P e
   if 0<n then pure (.cpy n (←bq d) (←bq x)) else none
  | _,_=>none
 | .builtin .max,[x,y],_=>do pure (.mm true (←bq x) (←bq y))
 | .builtin .min,[x,y],_=>do pure (.mm false (←bq x) (←bq y))
 | .value (.func f),l,_=>if dst.any (fun d=>own.contains d) then (match P.underlying type with
   | some (.slice e)=>do pure (.callo (kb+(←dst)) (←cN P e) f (←l.mapM bq))
   | _=>none) else match own.find? (fun o=>decide (1000000≤o)&&dst==some (o % 1000000)) with
   | some o=>do pure (.callm (o / 1000000-1) f (←l.mapM bq))
   | none=>do pure (.call f (←l.mapM bq))
 | .value f,l,_=>do pure (.callv (←bq f) (←l.mapM bq))
 | _,_,_=>none
def kL (P:Program) (kb:Nat) (own:List Nat) (dst:Option Nat) (type:TypeId):Op→Option MOp
 | .move x=>(bq x).map .mv
 | .assign x=>(bq x).map .mv
 | .pick c a b=>do pure (.pick (←bq c) (←bq a) (←bq b))
 | .alloc e=>do pure (.alloc (kb+(←dst)) (←g8 P e))
 | .box _ x=>do pure (.box (kb+(←dst)) (←bq x))
 | .build t ps=>match P.underlying t with
  | some (.struct fs)=>if (fs.toList.all fun f=>(cN P f.type).isSome)=true then do pure (.build (←g8 P t) (←iQ (dq P fs) ps.toList)) else none
  | some (.array _ e)=>do
   let s ←cN P e
   pure (.build (←g8 P t) (←iQ (fun i=>some (i*s,s)) ps.toList))
  | _=>none
 | .buildSlice t len ps=>match P.underlying t with
  | some (.slice e)=>do
   let z ←g8 P e
   let s ←cN P e
   let ps ←iQ (fun i=>some (i*s,s)) ps.toList
   let d ←dst
   if z.length=s∧0<s∧len*s≤16777216 then pure (.bsl (kb+d) (own.contains d) ((Tj len z).flatten) s len ps) else none
  | _=>none
 | .load t x=>do pure (.load (←cN P t) (←xq P t) (←bq x))
 | .store t x v=>do pure (.store (←cN P t) (←bq x) (←bq v))
 | .binOp op t x y _=>vi P op t x y
 | .unOp op _ x=>(bq x).map (.un op)
 | .nilCheck x=>(bq x).map .nchk
 | .convert s t x=>match P.underlying s,P.underlying t with
  | some (.int _),some (.int k)=>(bq x).map (.conv k)
  | _,_=>none
 | .makeFunc (.func f) fst caps=>if fst.size=0 then do pure (.mkfn f (←caps.toList.mapM bq)) else none
 | .makeSlice t l c=>match P.underlying t with
  | some (.slice e)=>do
   let z ←g8 P e
   let s ←cN P e
   let b ←rt P e
   let d ←dst
   if z.length=s∧0<s then pure (.mksl (kb+d) z b (←bq l) (←bq c)) else none
  | _=>none
 | .slice t x lo hi mx=>match P.underlying t with
  | some (.slice e)=>do
   let s ←cN P e
   if 0<s then pure (.slc s (←bq x) (←jg lo) (←jg hi) (←jg mx)) else none
  | some (.array n e)=>do
   let s ←cN P e
   if 0<s∧n≤16777216 then pure (.slca n s (←bq x) (←jg lo) (←jg hi) (←jg mx)) else none
  | some .string=>if mx.isNone then do pure (.slcs (←bq x) (←jg lo) (←jg hi)) else none
  | _=>none
 | .fieldAddr t x f=>match P.underlying t with
  | some (.struct fs)=>do
   let (o,s) ←dq P fs f
   if 0<s then pure (.fad o (←bq x)) else none
  | _=>none
 | .field t x f=>match P.underlying t with
  | some (.struct fs)=>do
   let fd ←fs[f]?
   let (o,s) ←dq P fs f
   pure (.fld o s (←xq P fd.type) (←bq x))
  | _=>none
 | .indexAddr t x i=>match P.underlying t with
  | some (.slice e)=>do
   let s ←cN P e
   if 0<s then pure (.iad s (←bq x) (←bq i)) else none
  | some (.array n e)=>do
   let s ←cN P e
   if 0<s then pure (.iada n s (←bq x) (←bq i)) else none
  | _=>none
 | .index t x i=>match P.underlying t with
  | some .string=>do pure (.idxs (←bq x) (←bq i))
  | _=>none
 | .extract x i=>(bq x).map (.ext i)
 | .call c=>nE P kb own dst type c
 | _=>none
def p9 (ops:Array Oper):Option (Nat × Bool)→Option (Option (Nat × Bool))
 | none=>some none
 | some (j,b)=>match (ops[j]?).bind (·.dst) with
  | some s=>some (some (s,b))
  | none=>none
def nQ (P:Program) (n kb:Nat) (own:List Nat) (ops:Array Oper) (o:Oper):Option MI :=
 match p9 ops o.guard with
 | some g=>if o.dst.all (fun d=>decide (d<n))=true then some ⟨o.dst,g,(kL P kb own o.dst o.type o.op).getD .bad⟩ else none
 | _=>none
def fX (m:MOp):Nat:=match m with
 | .load ..=>1
 | .slca ..=>1
 | m=>if wrs m=true then 2 else 0
def kq (a b:Nat):Bool:=a==0||b==0||(a==1&&b==1)
def dG:Opd→List Nat
 | .t s=>[s]
 | .c _=>[]
def vA:Option Opd→List Nat
 | some (.t s)=>[s]
 | _=>[]
def opds:MOp→List Nat
 | .mv x=>dG x
 | .pick c a b=>dG c++dG a++dG b
 | .alloc _ _=>[]
 | .box _ x=>dG x
 | .build _ ps=>ps.flatMap fun p=>dG p.2.2
 | .bsl _ _ _ _ _ ps=>ps.flatMap fun p=>dG p.2.2
 | .load _ _ x=>dG x
 | .store _ x v=>dG x++dG v
 | .bin _ x y=>dG x++dG y
 | .beq _ x y=>dG x++dG y
 | .eqs _ _ x y=>dG x++dG y
 | .isnil _ x=>dG x
 | .un _ x=>dG x
 | .conv _ x=>dG x
 | .nchk x=>dG x
 | .mksl _ _ _ x y=>dG x++dG y
 | .fad _ x=>dG x
 | .fld _ _ _ x=>dG x
 | .iad _ x i=>dG x++dG i
 | .iada _ _ x i=>dG x++dG i
 | .idxs x i=>dG x++dG i
 | .slc _ x a b c=>dG x++vA a++vA b++vA c
 | .slca _ _ x a b c=>dG x++vA a++vA b++vA c
 | .slcs x a b=>dG x++vA a++vA b
 | .ext _ x=>dG x
 | .len x=>dG x
 | .lens x=>dG x
 | .app _ _ _ s x=>dG s++dG x
 | .cpy _ s x=>dG s++dG x
 | .mm _ x y=>dG x++dG y
 | .call _ l=>l.flatMap dG
 | .callo _ _ _ l=>l.flatMap dG
 | .callv f l=>dG f++l.flatMap dG
 | .callm _ _ l=>l.flatMap dG
 | .mkfn _ l=>l.flatMap dG
 | .bad=>[]
def looks (i:MI):List Nat:=opds i.op++(match i.g with | some (s,_)=>[s] | none=>[])
def lR (x y:MI):Bool :=
 (
  match x.dst with
  | some d => !(looks y).contains d&&y.dst != some d
  | none=>true) &&
 (
  match y.dst with
  | some d => !(looks x).contains d
  | none=>true)
def oM:List Oper→List Nat→List Nat
 | [],acc=>acc
 | o::r,acc=>oM r (acc++[o.after.toList.foldl (fun s e=>if Region.binds .any e=true then s ||| (2^e.on ||| acc.getD e.on 0) else s) 0])
def mg:List MI→List MI→List Nat→Bool
 | _,[],_=>true
 | pre,c::cs,a::as=>(pre.zipIdx.all fun (p,i)=>a.testBit i||lR p c)&&mg (pre++[c]) cs as
 | _,_::_,[]=>false
def oq:Nat→List Oper→Bool
 | _,[]=>true
 | n,o::r=>(o.after.all fun e => !Region.binds .any e||decide (e.on<n))&&oq (n+1) r
def rD (ops:Array Oper) (l:List MI):Bool:=oq 0 ops.toList&&mg [] l (oM ops.toList [])
def qD:List MI→List MI→List Nat→List (List Nat)
 | _,[],_=>[]
 | pre,c::cs,as=>((pre.zipIdx.filter fun (p,i) => !((as.headD 0).testBit i||kq (fX p.op) (fX c.op))).map (·.2))::qD (pre++[c]) cs as.tail
def g5 (P:Program) (n kb:Nat) (own:List Nat):Code→Option MCode
 | .skip=>some .skip
 | .region _ ops draw=>match ops.toList.mapM (nQ P n kb own ops) with
  | some l=>if draw=true then (if rD ops l=true then some (.opsD l (qD [] l (oM ops.toList []))) else none) else some (.ops l)
  | none=>none
 | .seq a b=>match g5 P n kb own a,g5 P n kb own b with
  | some x,some y=>some (.seq x y)
  | _,_=>none
 | .cond c a b=>match bq c,g5 P n kb own a,g5 P n kb own b with
  | some c,some x,some y=>some (.cond c x y)
  | _,_,_=>none
 | .block id c=>(g5 P n kb own c).map (.block id)
 | .loop c=>(g5 P n kb own c).map .loop
 | .exit id=>some (.exit id)
 | .ret=>some .ret
 | _=>none
def vS (P:Program):ResultVar→Option nw
 | .tmp t=>some (.t t)
 | .cell a t=>match cN P t,xq P t with
  | some s,some g=>some (.cell a s g)
  | _,_=>none
def jW (P:Program) (kb:Nat) (own:List Nat) (f:Func):Option MFunc :=
 match f.body with
 | none=>none
 | some c=>match g5 P f.ntmps kb own c,f.results.toList.mapM (vS P) with
  | some b,some r=>some { n:=f.ntmps,np:=f.params.size+f.nfree,res:=r,body:=b }
  | _,_=>none
structure StepOK (A:Nat→Prop) (w:World) (B:Lay) (w':World) (B':Lay) (mem':Mem):Prop where
 mr:MemRel A w' B' mem'
 tr:Trans A w B w' B'
 fr:Fr (Own B) w w'
 fresh:∀ b,Own B' b→Own B b∨w.heap.size≤b
theorem StepOK.still {A:Nat→Prop} {w w':World} {B:Lay} {mem:Mem} (h:MemRel A w B mem) (f:Fr (fun _=>False) w w'):StepOK A w B w' B mem:=by
 have tr:Trans A w B w' B:=⟨f.size,fun b hb ho=>⟨f.block b hb id,fun hx=>ho (.inl hx)⟩,fun _ e he=>⟨e,he,.inl rfl⟩⟩
 refine⟨⟨h.dom,h.inj,h.sep,fun b hb=>Ti (h.lt b hb) f.size,fun k g cs hm=>?_⟩,tr,⟨f.os,f.tape,f.output,f.size,fun b hb _=>f.block b hb id⟩,fun b hb => .inl hb⟩
 obtain⟨e,he,hg,hn,hb⟩:=h.blk k g cs hm;refine⟨e,he,hg,hn,fun b hbb=>?_⟩
 obtain⟨vs,T,h1,h2,h3,h4⟩:=hb b hbb;have hlt:b<w.heap.size:=(Array.getElem?_eq_some_iff.1 h1).1;exact⟨vs,T,(f.block b hlt id).trans h1,h2,h3,fun i m hm=>let ⟨v,hv,hr⟩:=h4 i m hm;⟨v,hv,hr.keep tr⟩⟩
theorem StepOK.refl {A:Nat→Prop} {w:World} {B:Lay} {mem:Mem} (h:MemRel A w B mem):StepOK A w B w B mem:=.still h (Fr.refl _ _)
def fx (B:Lay) (k:Key) (e:Bk):Lay:=fun j=>if j=k then some e else B j
theorem aX (B:Lay) (k:Key) (e:Bk):fx B k e k=some e:=by simp [fx]
theorem aL (B:Lay) {k j:Key} (e:Bk) (h:j≠k):fx B k e j=B j:=by simp [fx,h]
section
variable {A:Nat→Prop} {w w':World} {B:Lay} {mem:Mem} {k:Key} {e':Bk} {cs:List MV}
theorem Trans.change (hsz:w.heap.size≤w'.heap.size)
  (hold:∀ b,b<w.heap.size→(∀ e,B k=some e→e.blk≠some b)→w'.heap[b]?=w.heap[b]?)
  (hg:∀ e,B k=some e→e'=e∨e.g<e'.g)
  (hblk:∀ b,e'.blk=some b→w.heap.size≤b∨∃ e,B k=some e∧e.blk=some b):Trans A w B w' (fx B k e'):=by
 refine⟨hsz,fun b hb ho=>⟨hold b hb fun e he hx=>ho (.inl ⟨k,e,he,hx⟩),?_⟩,fun j e he=>?_⟩
 ·rintro⟨j,e,he,hx⟩
  by_cases hj:j=k
  ·subst hj
   rw[aX] at he
   cases he;rcases hblk b hx with h1 | ⟨e,h1,h2⟩
   ·omega
   ·exact ho (.inl ⟨_,e,h1,h2⟩)
  ·rw[aL B e' hj] at he
   exact ho (.inl ⟨j,e,he,hx⟩)
 ·by_cases hj:j=k
  ·subst hj
   exact⟨e',aX _ _ _,hg e he⟩
  ·exact⟨e,(aL B e' hj).trans he,.inl rfl⟩
theorem nj (hblk:∀ b,e'.blk=some b→w.heap.size≤b∨∃ e,B k=some e∧e.blk=some b) (b:Nat) (h:Own (fx B k e') b):Own B b∨w.heap.size≤b:=by
 obtain⟨j,e,he,hx⟩:=h
 by_cases hj:j=k
 ·subst hj
  rw[aX] at he
  cases he;rcases hblk b hx with h1 | ⟨e,h1,h2⟩
  ·exact .inr h1
  ·exact .inl ⟨_,e,h1,h2⟩
 ·rw[aL B e' hj] at he
  exact .inl ⟨j,e,he,hx⟩
theorem MemRel.change' (h:MemRel A w B mem) (hsz:w.heap.size≤w'.heap.size)
  (hold:∀ b,b<w.heap.size→(∀ e,B k=some e→e.blk≠some b)→w'.heap[b]?=w.heap[b]?)
  (hg:∀ e,B k=some e→e'=e∨e.g<e'.g)
  (hblk:∀ b,e'.blk=some b→w.heap.size≤b∨∃ e,B k=some e∧e.blk=some b)
  (hn:e'.blk=none→cs=[])
  (hc:∀ b,e'.blk=some b→∃ vs T,w'.heap[b]?=some (.cells vs T (0,0))∧vs.size=e'.size∧cs.length≤vs.size ∧
   ∀ (i:Nat) (m:MV),cs[i]?=some m→∃ v,vs[i]?=some v∧VR w' (OA A (fx B k e')) (fx B k e') m v):MemRel A w' (fx B k e') (aA mem k e'.g cs):=by
 have tr:Trans A w B w' (fx B k e'):=Trans.change hsz hold hg hblk;have fresh:=nj (w:=w) hblk;refine⟨fun j hj=>?_,fun j j' e e2 b he he2 hb hb2=>?_,fun b ha ho=>?_,fun b hb=>Ti (h.lt b hb) hsz,fun j g cs' hm=>?_⟩
 ·by_cases hjk:j=k
  ·subst hjk;simp [aA] at hj
  ·simp only[aA,hjk,if_false] at hj
   rw[aL B e' hjk];exact h.dom j hj
 ·by_cases hjk:j=k<;>by_cases hjk':j'=k
  ·rw[hjk,hjk']
  ·subst hjk
   rw[aX] at he
   cases he;rw[aL B e' hjk'] at he2;rcases hblk b hb with h1 | ⟨e,h1,h2⟩
   ·have:=h.own_lt ⟨j',e2,he2,hb2⟩;omega
   ·exact h.inj _ _ e e2 b h1 he2 h2 hb2
  ·subst hjk'
   rw[aX] at he2
   cases he2;rw[aL B e' hjk] at he;rcases hblk b hb2 with h1 | ⟨e3,h1,h2⟩
   ·have:=h.own_lt ⟨j,e,he,hb⟩;omega
   ·exact h.inj _ _ e e3 b he h1 hb h2
  ·rw[aL B e' hjk] at he
   rw[aL B e' hjk'] at he2;exact h.inj j j' e e2 b he he2 hb hb2
 ·rcases fresh b ho with h1 | h1
  ·exact h.sep b ha h1
  ·have:=h.lt b ha;omega
 ·by_cases hjk:j=k
  ·subst hjk
   simp only[aA,if_true,Option.some.injEq,Prod.mk.injEq] at hm;obtain⟨rfl,rfl⟩:=hm;refine⟨e',aX _ _ _,rfl,hn,fun b hb=>?_⟩
   obtain⟨vs,T,h1,h2,h3,h4⟩:=hc b hb;exact⟨vs,T,h1,h2,h3,h4⟩
  ·simp only[aA,hjk,if_false] at hm
   obtain⟨e,he,hg',hn',hb'⟩:=h.blk j g cs' hm;refine⟨e,(aL B e' hjk).trans he,hg',hn',fun b hb=>?_⟩
   obtain⟨vs,T,h1,h2,h3,h4⟩:=hb' b hb;have hlt:b<w.heap.size:=(Array.getElem?_eq_some_iff.1 h1).1;have hsame:w'.heap[b]?=w.heap[b]?:=hold b hlt fun e3 h3 h4=>hjk (h.inj j k e e3 b he h3 hb h4)
   exact⟨vs,T,hsame.trans h1,h2,h3,fun i m hm=>let ⟨v,hv,hr⟩:=h4 i m hm;⟨v,hv,hr.keep tr⟩⟩
theorem MemRel.change (h:MemRel A w B mem) (hsz:w.heap.size≤w'.heap.size)
  (hold:∀ b,b<w.heap.size→(∀ e,B k=some e→e.blk≠some b)→w'.heap[b]?=w.heap[b]?)
  (hg:∀ e,B k=some e→e'=e∨e.g<e'.g)
  (hblk:∀ b,e'.blk=some b→w.heap.size≤b∨∃ e,B k=some e∧e.blk=some b)
  (hn:e'.blk=none→cs=[])
  (hc:∀ b,e'.blk=some b→∃ vs T,w'.heap[b]?=some (.cells vs T (0,0))∧vs.size=e'.size∧cs.length≤vs.size ∧
   ∀ (i:Nat) (m:MV),cs[i]?=some m→∃ v,vs[i]?=some v∧VR w (OA A B) B m v):MemRel A w' (fx B k e') (aA mem k e'.g cs) :=
 h.change' hsz hold hg hblk hn fun b hb=>by
  have tr:Trans A w B w' (fx B k e'):=Trans.change hsz hold hg hblk;obtain⟨vs,T,h1,h2,h3,h4⟩:=hc b hb;exact⟨vs,T,h1,h2,h3,fun i m hm=>let ⟨v,hv,hr⟩:=h4 i m hm;⟨v,hv,hr.keep tr⟩⟩
theorem StepOK.change (h:MemRel A w B mem) (f:Fr (fun b=>∃ e,B k=some e∧e.blk=some b) w w')
  (hg:∀ e,B k=some e→e'=e∨e.g<e'.g)
  (hblk:∀ b,e'.blk=some b→w.heap.size≤b∨∃ e,B k=some e∧e.blk=some b)
  (hn:e'.blk=none→cs=[])
  (hc:∀ b,e'.blk=some b→∃ vs T,w'.heap[b]?=some (.cells vs T (0,0))∧vs.size=e'.size∧cs.length≤vs.size ∧
   ∀ (i:Nat) (m:MV),cs[i]?=some m→∃ v,vs[i]?=some v∧VR w (OA A B) B m v):StepOK A w B w' (fx B k e') (aA mem k e'.g cs):=by
 have hold:∀ b,b<w.heap.size→(∀ e,B k=some e→e.blk≠some b)→w'.heap[b]?=w.heap[b]? :=
  fun b hb hx=>f.block b hb fun⟨e,he,hbb⟩=>hx e he hbb
 exact⟨h.change f.size hold hg hblk hn hc,Trans.change f.size hold hg hblk,⟨f.os,f.tape,f.output,f.size,fun b hb ho=>f.block b hb fun⟨e,he,hbb⟩=>ho ⟨k,e,he,hbb⟩⟩,nj hblk⟩
theorem mi (h:MemRel A w B mem) (k:Key) (e:Bk) (he:B k=some e):e.g<aD mem k:=by
 cases hm:mem k with
 | none=>rw[h.dom k hm] at he;cases he
 | some x =>
  obtain⟨g,cs⟩:=x;obtain⟨e2,h1,h2,_⟩:=h.blk k g cs hm;rw[h1] at he
  cases he;simp [aD,hm,h2]
theorem StepOK.alloc (h:MemRel A w B mem) (w1:World) (f:Fr (fun _=>False) w w1) (hz:w1.heap.size=w.heap.size) (k:Key) (vs:Array Value) (T:TypeId) (hl:cs.length≤vs.size)
  (hc:∀ (i:Nat) (m:MV),cs[i]?=some m→∃ v,vs[i]?=some v∧VR w (OA A B) B m v) :
  StepOK A w B (w1.alloc (.cells vs T)) (fx B k ⟨aD mem k,some w.heap.size,vs.size⟩) (aA mem k (aD mem k) cs):=by
 have f2:Fr (fun _=>False) w (w1.alloc (.cells vs T)):=f.alloc _;refine StepOK.change (e':=⟨aD mem k,some w.heap.size,vs.size⟩) h ⟨f2.os,f2.tape,f2.output,f2.size,fun b hb _=>f2.block b hb id⟩ (fun e he => .inr (mi h k e he)) (fun b hb => .inl ?_) (by simp) ?_
 ·simp at hb;omega
 ·intro b hb
  simp at hb;subst hb;exact⟨vs,T,by rw[←hz];exact heap_alloc_new w1 _,rfl,hl,hc⟩
theorem StepOK.virtual (h:MemRel A w B mem) (k:Key):StepOK A w B w (fx B k ⟨aD mem k,none,0⟩) (aA mem k (aD mem k) []) :=
 StepOK.change (e':=⟨aD mem k,none,0⟩) h ⟨rfl,rfl,rfl,Tg _,fun _ _ _=>rfl⟩ (fun e he => .inr (mi h k e he)) (fun b hb=>by simp at hb) (fun _=>rfl) (fun b hb=>by simp at hb)
end
theorem StepOK.trans {A:Nat→Prop} {w w1 w2:World} {B B1 B2:Lay} {m1 m2:Mem} (h:StepOK A w B w1 B1 m1) (h':StepOK A w1 B1 w2 B2 m2):StepOK A w B w2 B2 m2:=by
 refine⟨h'.mr,h.tr.trans h'.tr,⟨h'.fr.os.trans h.fr.os,h'.fr.tape.trans h.fr.tape,h'.fr.output.trans h.fr.output,Th h.fr.size h'.fr.size,fun b hb ho=>?_⟩,fun b hb=>?_⟩
 ·have h1:=h.fr.block b hb ho
  refine (h'.fr.block b (Ti hb h.fr.size) fun hx=>?_).trans h1;rcases h.fresh b hx with h2 | h2
  ·exact ho h2
  ·omega
 ·rcases h'.fresh b hb with h1 | h1
  ·exact h.fresh b h1
  ·exact .inr (Th h.fr.size h1)
theorem tH {w:World} {O:Nat→Prop} {B:Lay} {v:Value} {m:MV} (h:Jm v=some m):VR w O B m v:=by
 unfold Jm at h
 split at h<;>simp only[Option.some.injEq,reduceCtorEq] at h<;>subst h
 ·exact .dat .int
 ·exact .dat .bool
 ·rename_i s
  exact .dat (by
   have:s=⟨s.data.toList.toArray⟩:=by simp
   rw[this]
   simpa using Den.str (s:=s.data.toList))
 ·exact .nil
 ·exact .dat .nilp
 ·exact .dat .nilf
theorem dh {α β:Type} {f:α→Option β}:∀ {l:List α} {r:List β},l.mapM f=some r→r.length=l.length∧∀ (i:Nat) (x:α) (y:β),l[i]?=some x→r[i]?=some y→f x=some y
 | [],r,h=>by
  simp at h;subst h;exact⟨rfl,fun i x y h1=>by simp at h1⟩
 | a::l,r,h=>by
  simp only[Tk,Tm,Tn,To,Option.some.injEq] at h;obtain⟨b,hb,r',hr,rfl⟩:=h;obtain⟨h1,h2⟩:=dh hr;refine⟨by simp [h1],fun i x y hx hy=>?_⟩
  cases i with
  | zero=>simp at hx hy;subst hx;subst hy;exact hb
  | succ i=>exact h2 i x y (by simpa using hx) (by simpa using hy)
theorem Ls {w:World} {O:Nat→Prop} {B:Lay} {v:Value} {m:MV} (h:cst v=some m):VR w O B m v:=by
 unfold cst at h
 split at h
 ·rename_i cs
  simp only[Tp] at h;obtain⟨ms,hms,rfl⟩:=h;obtain⟨h1,h2⟩:=dh hms;have:=VR.agg (w:=w) (O:=O) (B:=B) (cs:=ms) (vs:=cs.toList) (by simp [h1]) fun i d v hd hv=>tH (h2 i v d hv hd)
  simpa using this
 ·exact tH h
section
variable {P:Program} {w:World} {O:Nat→Prop} {B:Lay}
theorem VR.int_inv {k:IntKind} {n:Int} {v:Value} (h:VR w O B (.dat (.int k n)) v):v = .int k n:=by
 cases h with
 | dat h=>cases h;rfl
theorem VR.bool_inv {b:Bool} {v:Value} (h:VR w O B (.dat (.bool b)) v):v = .bool b:=by
 cases h with
 | dat h=>cases h;rfl
theorem VR.str_inv {s:List UInt8} {v:Value} (h:VR w O B (.dat (.str s)) v):v = .string ⟨s.toArray⟩:=by
 cases h with
 | dat h=>cases h;rfl
theorem VR.ofInt {k:IntKind} {n:Int}:VR w O B (.dat (.int k n)) (.int k n):=.dat .int
theorem JJ {op:BinOp} {k:IntKind} {a b:Int} {d:Data} (t:TypeId) (hs:oK op=false) (h:LI op k a b=some d) :
  ∃ v,(binOp op t (.int k a) (.int k b)).run P w = .ok v w∧Den w O d v:=by
 cases op<;>simp only[LI,Option.some.injEq,reduceCtorEq] at h<;>simp only[oK,Bool.true_eq_false] at hs
 case quo =>
  split at h
  ·cases h
  ·rename_i hb
   cases h;exact⟨_,by simp [go_sem,Op.intDiv,hb],.int⟩
 case rem =>
  split at h
  ·cases h
  ·rename_i hb
   cases h;exact⟨_,by simp [go_sem,Op.intDiv,hb],.int⟩
 all_goals
  subst h
  first
   | exact⟨_,by simp [go_sem,Op.intArith],.int⟩
   | exact⟨_,by simp [go_sem],.int⟩
   | exact⟨_,by simp [go_sem],.bool⟩
theorem MZ {op:BinOp} {k k':IntKind} {a b:Int} {d:Data} (t:TypeId) (hs:oK op=true) (h:shI op k a b=some d) :
  ∃ v,(binOp op t (.int k a) (.int k' b)).run P w = .ok v w∧Den w O d v:=by
 unfold shI at h
 split at h
 ·cases h
 ·rename_i hb
  cases op<;>simp only[oK,Tq] at hs
  ·simp only[Option.some.injEq] at h
   subst h;exact⟨.int k _,by simp [binOp,Op.shift,hb],.int⟩
  ·simp only[Option.some.injEq] at h
   subst h;exact⟨.int k _,by simp [binOp,Op.shift,hb],.int⟩
theorem jC {op:BinOp} {t:TypeId} {x y:Operand} {u v:Value} (h1:u ≠ .nilIface) (h2:∀ c,u ≠ .agg c):eqGuard op t x y u v=pure ():=by
 unfold eqGuard
 cases op<;>cases u<;>first | rfl | exact absurd rfl h1 | exact absurd rfl (h2 _)
theorem HU {op:BinOp} {a b:List UInt8} {d:Data} (t:TypeId) (h:KP op a b=some d) :
  ∃ v,(binOp op t (.string ⟨a.toArray⟩) (.string ⟨b.toArray⟩)).run P w = .ok v w∧Den w O d v:=by
 have hbin:binOp op t (.string ⟨a.toArray⟩) (.string ⟨b.toArray⟩)=Op.stringOp op ⟨a.toArray⟩ ⟨b.toArray⟩:=by
  cases op<;>rfl
 rw[hbin]
 cases op<;>simp only[KP,Option.some.injEq,reduceCtorEq] at h
 case add =>
  split at h
  ·rename_i hl
   cases h;refine⟨.string ⟨(a++b).toArray⟩,?_,.str⟩;have hl':¬ (9223372036854775807<(a.length:Int)+(b.length:Int)):=by unfold maxLen at hl;omega
   have e1:(ByteArray.mk a.toArray).size=a.length:=by simp [ByteArray.size]
   have e2:(ByteArray.mk b.toArray).size=b.length:=by simp [ByteArray.size]
   have happ:(ByteArray.mk a.toArray)++(ByteArray.mk b.toArray)=⟨(a++b).toArray⟩:=by
    apply ByteArray.ext;simp
   simp [Op.stringOp,e1,e2,hl',happ]
  ·cases h
 all_goals
  subst h;exact⟨_,by simp [Op.stringOp],.bool⟩
theorem Ap {op:BinOp} {m n r:MV} {u v:Value} (t:TypeId) (x y:Operand) (hm:VR w O B m u) (hn:VR w O B n v) (h:J7 op m n=some r) :
  ∃ z,((do eqGuard op t x y u v;binOp op t u v:Sem Value)).run P w = .ok z w∧VR w O B r z:=by
 unfold J7 at h
 split at h
 ·rename_i k a k' b
  cases hm.int_inv
  cases hn.int_inv;rw[jC (by simp) (by simp)]
  split at h
  ·rename_i hs
   simp only[Tp] at h;obtain⟨d,hd,rfl⟩:=h;obtain⟨z,h1,h2⟩:=MZ (P:=P) (w:=w) (O:=O) (k':=k') t hs hd;exact⟨z,by simpa using h1,.dat h2⟩
  ·rename_i hs
   split at h
   ·rename_i hk
    subst hk;simp only[Tp] at h;obtain⟨d,hd,rfl⟩:=h;obtain⟨z,h1,h2⟩:=JJ (P:=P) (w:=w) (O:=O) t (by simpa using hs) hd;exact⟨z,by simpa using h1,.dat h2⟩
   ·cases h
 ·rename_i a b
  cases hm.str_inv
  cases hn.str_inv;rw[jC (by simp) (by simp)];simp only[Tp] at h;obtain⟨d,hd,rfl⟩:=h;obtain⟨z,h1,h2⟩:=HU (P:=P) (w:=w) (O:=O) t hd;exact⟨z,by simpa using h1,.dat h2⟩
 ·cases h
theorem BJ {neg:Bool} {m n r:MV} {u v:Value} (t:TypeId) (x y:Operand) (ht:P.underlying t=some .bool) (hm:VR w O B m u) (hn:VR w O B n v) (h:If neg m n=some r) :
  ∃ z,((do eqGuard (if neg then .neq else .eql) t x y u v;binOp (if neg then .neq else .eql) t u v:Sem Value)).run P w = .ok z w∧VR w O B r z:=by
 unfold If at h
 split at h
 ·rename_i a b
  cases hm.bool_inv
  cases hn.bool_inv
  cases h;rw[jC (by simp) (by simp)]
  cases neg
  ·exact⟨.bool (a==b),by simp [run_eql_bool w t a b ht],by cases a<;>cases b<;>exact .dat .bool⟩
  ·exact⟨.bool (!(a==b)),by simp [run_neq_bool w t a b ht],by cases a<;>cases b<;>exact .dat .bool⟩
 ·cases h
theorem Fl {t:TypeId} {k:Nat} {m n:MV} {c:Bool} {u v:Value} (d:Nat) (hk:Bu P t=some k) (hm:VR w O B m u) (hn:VR w O B n v) (h:yw k m n=some c) :
  (Op.equalIn (d+1) t u v).run P w = .ok c w:=by
 unfold Bu at hk;unfold yw at h
 split at h
 ·simp only[Option.some.injEq] at h
  cases hm.bool_inv
  cases hn.bool_inv;subst h
  split at hk<;>first | (exfalso;simp at hk;done) | (rename_i hu;exact run_equalIn_bool w d t _ _ hu)
 ·split at h
  ·rename_i hkk
   subst hkk
   cases hm.int_inv
   cases hn.int_inv
   cases h
   split at hk<;>first | (exfalso;simp at hk;done) | (rename_i hu;exact run_equalIn_int w d t _ _ _ _ hu)
  ·cases h
 ·simp only[Option.some.injEq] at h
  cases hm.str_inv
  cases hn.str_inv;subst h
  split at hk<;>first | (exfalso;simp at hk;done) | (rename_i hu;rw[run_equalIn_string w d t _ _ hu];simp)
 ·cases h
theorem yT {t:TypeId} {k:Nat} (h:Bu P t=some k):(isAgg t).run P w = .ok false w:=by
 unfold Bu at h
 split at h<;>simp only[Option.some.injEq,reduceCtorEq] at h<;>(rename_i hu;simp [isAgg,run_underlying hu])
theorem pJ {d:Nat} {xs ys:Array Value} {cs ds:List MV} (hx:∀ (i:Nat) (m:MV) (v:Value),cs[i]?=some m→xs[i]?=some v→VR w O B m v) (hxl:xs.size=cs.length)
  (hy:∀ (i:Nat) (m:MV) (v:Value),ds[i]?=some m→ys[i]?=some v→VR w O B m v) (hyl:ys.size=ds.length) :
  ∀ (fs:List Field) (i:Nat) (ks:List Nat) (c:Bool),jx P i fs=some ks→lh ks (cs.drop i) (ds.drop i)=some c→(Op.eqFields (d+1) xs ys fs).run P w = .ok c w
 | [],i,ks,c,hf,hc=>by
  simp [jx] at hf;subst hf
  cases h1:cs.drop i<;>cases h2:ds.drop i<;>simp [h1,h2,lh] at hc
  subst hc;simp [Op.eqFields]
 | f::r,i,ks,c,hf,hc=>by
  simp only[jx] at hf
  split at hf
  ·rename_i hn
   obtain⟨hn1,hn2⟩:=hn
   split at hf
   ·rename_i k ks' hk hks
    cases hf
    cases h1:cs.drop i with
    | nil=>simp [h1,lh] at hc
    | cons a x =>
     cases h2:ds.drop i with
     | nil=>simp [h1,h2,lh] at hc
     | cons b y =>
      rw[h1,h2] at hc;simp only[lh] at hc
      split at hc
      ·rename_i c1 c2 hc1 hc2
       cases hc
       have hi1:i<cs.length:=by
        rcases Tr i cs.length with h | h
        ·exact h
        ·rw[Ts h] at h1;cases h1
       have hi2:i<ds.length:=by
        rcases Tr i ds.length with h | h
        ·exact h
        ·rw[Ts h] at h2;cases h2
       rw[Tt hi1] at h1;rw[Tt hi2] at h2
       injection h1 with ha hxx
       injection h2 with hb hyy
       subst ha;subst hb;subst hxx;subst hyy
       have ex:xs[f.offset]?=some (xs[i]'(by omega)):=by rw[hn2];exact Array.getElem?_eq_getElem (by omega)
       have ey:ys[f.offset]?=some (ys[i]'(by omega)):=by rw[hn2];exact Array.getElem?_eq_getElem (by omega)
       have rx:=hx i _ _ (Tu hi1) (Array.getElem?_eq_getElem (by omega:i<xs.size));have ry:=hy i _ _ (Tu hi2) (Array.getElem?_eq_getElem (by omega:i<ys.size));have he:=Fl (P:=P) d hk rx ry hc1;have ih:=pJ (d:=d) hx hxl hy hyl r (i+1) ks' c2 hks hc2;have hagg:(isAgg f.type).run P w = .ok false w:=yT hk;simp only[Op.eqFields,hn1,ne_eq,not_false_eq_true,if_true,Sem.run_bind,part,hagg,Result.andThen_ok,Tq,if_false,ex,ey,Sem.run_pure,he]
       cases c1
       ·simp
       ·simp [ih]
      ·cases hc
   ·cases hf
  ·cases hf
theorem Ev {m:MV} {v:Value} (h:VR w O B m v) (h1:m.one=true):v.oneCell'=true:=by
 cases h with
 | dat hd=>cases hd<;>first | rfl | simp [MV.one] at h1
 | nil=>rfl
 | ref he hg hv=>obtain⟨a,cap,rfl,_⟩:=hv;rfl
 | ptr he hg hv=>obtain⟨b,rfl,_⟩:=hv;rfl
 | clo hl hd=>rfl
 | agg hl hd=>simp [MV.one] at h1
 | tup hl hd=>simp [MV.one] at h1
 | no=>simp [MV.one] at h1
 | undef=>simp [MV.one] at h1
theorem Fb {v:Value} (h:∀ c,v ≠ .agg c):v.cells=#[v]:=by
 unfold Value.cells
 split
 ·rename_i cs;exact absurd rfl (h cs)
 ·rfl
theorem GN {m:MV} {v:Value} (h:VR w O B m v) (hu:m ≠ .undef):v.cells.size=m.cells.length∧∀ (i:Nat) (c:MV) (u:Value),m.cells[i]?=some c→v.cells[i]?=some u→VR w O B c u:=by
 have one:(∀ c,v ≠ .agg c)→m.cells=[m]→v.cells.size=m.cells.length∧∀ (i:Nat) (c:MV) (u:Value),m.cells[i]?=some c→v.cells[i]?=some u→VR w O B c u:=by
  intro hv hm;rw[hm,Fb hv];refine⟨rfl,fun i c u hc hu=>?_⟩
  cases i with
  | zero=>simp at hc hu;subst hc;subst hu;exact h
  | succ i=>simp at hc
 cases h with
 | dat hd =>
  cases hd with
  | agg hl hd =>
   refine⟨by simp [Value.cells,MV.cells];exact hl,fun i c u hc hu=>?_⟩
   simp only[MV.cells,Tv,Tp] at hc;obtain⟨d,hd',rfl⟩:=hc;exact .dat (hd i d u hd' (by simpa [Value.cells] using hu))
  | _=>exact one (by simp) rfl
 | nil=>exact one (by simp) rfl
 | ref he hg hv=>obtain⟨a,cap,rfl,_⟩:=hv;exact one (by simp) rfl
 | ptr he hg hv=>obtain⟨b,rfl,_⟩:=hv;exact one (by simp) rfl
 | clo hl hd=>exact one (by simp) rfl
 | agg hl hd =>
  refine⟨by simp [Value.cells,MV.cells];exact hl,fun i c u hc hu=>hd i c u (by simpa [MV.cells] using hc) (by simpa [Value.cells] using hu)⟩
 | tup hl hd=>exact one (by simp) rfl
 | no=>exact one (by simp [undef]) rfl
 | undef=>exact absurd rfl hu
end
section
variable {P:Program} {w:World} {O:Nat→Prop} {B:Lay}
def RL (w:World) (O:Nat→Prop) (B:Lay) (cs:List MV) (vs:List Value):Prop :=
 vs.length=cs.length∧∀ (i:Nat) (m:MV) (v:Value),cs[i]?=some m→vs[i]?=some v→VR w O B m v
theorem RL.get {cs:List MV} {vs:List Value} (h:RL w O B cs vs) {i:Nat} {m:MV} (hi:cs[i]?=some m):∃ v,vs[i]?=some v∧VR w O B m v:=by
 have hl:i<cs.length:=(List.getElem?_eq_some_iff.1 hi).1;have hv:vs[i]?=some (vs[i]'(by rw[h.1];exact hl)):=Tu _;exact⟨_,hv,h.2 i m _ hi hv⟩
theorem RL.nil:RL w O B [] []:=⟨rfl,fun i m v h=>by simp at h⟩
theorem RL.cons {m:MV} {v:Value} {cs:List MV} {vs:List Value} (h:VR w O B m v) (hr:RL w O B cs vs):RL w O B (m::cs) (v::vs):=by
 refine⟨by simp [hr.1],fun i m' v' h1 h2=>?_⟩
 cases i with
 | zero=>simp at h1 h2;subst h1;subst h2;exact h
 | succ i=>exact hr.2 i m' v' (by simpa using h1) (by simpa using h2)
theorem RL.append {a b:List MV} {x y:List Value} (h:RL w O B a x) (h':RL w O B b y):RL w O B (a++b) (x++y):=by
 refine⟨by simp [h.1,h'.1],fun i m v h1 h2=>?_⟩
 rw[Tw] at h1 h2
 split at h1
 ·rename_i hi
  rw[if_pos (by rw[h.1];exact hi)] at h2;exact h.2 i m v h1 h2
 ·rename_i hi
  rw[if_neg (by rw[h.1];exact hi),h.1] at h2;exact h'.2 _ m v h1 h2
theorem RL.drop {a:List MV} {x:List Value} (h:RL w O B a x) (n:Nat):RL w O B (a.drop n) (x.drop n) :=
 ⟨by simp [h.1],fun i m v h1 h2=>h.2 (n+i) m v (by simpa using h1) (by simpa using h2)⟩
theorem RL.take {a:List MV} {x:List Value} (h:RL w O B a x) (n:Nat):RL w O B (a.take n) (x.take n):=by
 refine⟨by simp [h.1],fun i m v h1 h2=>?_⟩
 rw[Tx] at h1 h2
 split at h1
 ·rename_i hi
  rw[if_pos hi] at h2;exact h.2 i m v h1 h2
 ·cases h1
theorem RL.splice {a b:List MV} {x y:List Value} (h:RL w O B a x) (h':RL w O B b y) (off:Nat) :
  RL w O B (splice a off b) (x.take off++y++x.drop (off+y.length)):=by
 unfold Mini.splice;rw[h'.1];exact ((h.take off).append h').append (h.drop _)
theorem RL.of_cells {m:MV} {v:Value} (h:VR w O B m v) (hu:m ≠ .undef):RL w O B m.cells v.cells.toList:=by
 obtain⟨h1,h2⟩:=GN h hu;exact⟨by simpa using h1,fun i c u hc hv=>h2 i c u hc (by simpa using hv)⟩
theorem RL.dat {ds:List Data} {vs:List Value} (hl:vs.length=ds.length) (h:∀ (i:Nat) (d:Data) (v:Value),ds[i]?=some d→vs[i]?=some v→Den w O d v):RL w O B (ds.map .dat) vs:=by
 refine⟨by simp [hl],fun i m v h1 h2=>?_⟩
 simp only[Tv,Tp] at h1;obtain⟨d,hd,rfl⟩:=h1;exact .dat (h i d v hd h2)
theorem md {cs:List MV} {off n:Nat} {r:List MV} (h:cut cs off n=some r):off+n≤cs.length∧r=(cs.drop off).take n∧r.length=n:=by
 unfold cut at h
 split at h
 ·rename_i hl
  cases h;exact⟨hl,rfl,by simp;omega⟩
 ·cases h
def At (w:World) (b off:Nat) (vs:List Value):Prop:=∀ (j:Nat) (u:Value),vs[j]?=some u→w.cell? ⟨b,off+j,none⟩=some u
theorem At.add {w:World} {b off:Nat} {vs:List Value} (h:At w b off vs) (n:Nat):At w b (off+n) (vs.drop n):=fun j u hj=>by
 have:=h (n+j) u (by simpa using hj)
 rwa [←Ty] at this
theorem At.take {w:World} {b off:Nat} {vs:List Value} (h:At w b off vs) (n:Nat):At w b off (vs.take n):=fun j u hj=>by
 rw[Tx] at hj
 split at hj
 ·exact h j u hj
 ·cases hj
theorem At.row {w:World} {b:Nat} {vs:Array Value} {T:TypeId} {fr:Nat × Nat} (h:w.heap[b]?=some (.cells vs T fr)):At w b 0 vs.toList:=fun j u hj=>by
 rw[Tz,cell_of_row w b j vs T fr h]
 simpa using hj
theorem i5 (b off n:Nat):(⟨b,off,none⟩:Addr).add n=⟨b,off+n,none⟩:=by
 unfold Addr.add
 split<;>simp_all
theorem At.load {b off:Nat} {vs:List Value} (h:At w b off vs):(loadCells ⟨b,off,none⟩ vs.length).run P w = .ok vs.toArray w :=
 run_loadCells_list w _ vs fun j v hj=>by rw[i5];exact h j v hj
theorem eE {t:TypeId} {n:Nat} (h:cN P t=some n):(sizeOf t).run P w = .ok n w:=by
 simp only[cN,Tp] at h;obtain⟨i,hi,rfl⟩:=h;simp [sizeOf,typeInfo,hi]
theorem p0 {t:TypeId} {g:Bool} (h:xq P t=some g):(isAgg t).run P w = .ok g w:=by
 simp only[xq,Tp] at h;obtain⟨d,hd,rfl⟩:=h;simp only[isAgg,Sem.run_bind,run_underlying hd,Result.andThen_ok]
 cases d<;>rfl
theorem wV {t:TypeId} {n:Nat} {ag:Bool} {b off:Nat} {ms:List MV} {vs:List Value} {r:MV} (hs:cN P t=some n) (ha:xq P t=some ag) (hl:ms.length=n)
  (hrl:RL w O B ms vs) (hat:At w b off vs) (h:kR ag ms=some r):∃ u,(loadVar t ⟨b,off,none⟩).run P w = .ok u w∧VR w O B r u:=by
 unfold kR at h
 split at h
 ·rename_i hag
  cases h;subst hag;refine⟨.agg vs.toArray,?_,.agg hrl.1 hrl.2⟩;have:=hat.load (P:=P);rw[hrl.1,hl] at this;simp [loadVar,p0 ha,eE hs,this]
 ·rename_i hag
  split at h
  ·cases h
   obtain⟨u,hu,hr⟩:=hrl.get (i:=0) (m:=r) rfl;have:=hat 0 u hu;have hag':ag=false:=by simpa using hag
   subst hag';exact⟨u,by simp [loadVar,p0 ha,this];simpa using by rw[show off=off+0 from rfl,this],hr⟩
  ·cases h
end
section
variable {P:Program} {A:Nat→Prop} {w:World} {B:Lay} {mem:Mem}
theorem MemRel.at_ (h:MemRel A w B mem) {k:Key} {g:Nat} {cs:List MV} (hk:mem k=some (g,cs)) :
  ∃ e,B k=some e∧e.g=g∧(e.blk=none→cs=[])∧∀ b,e.blk=some b→∃ (vs:Array Value) (T:TypeId),w.heap[b]?=some (.cells vs T (0,0))∧vs.size=e.size∧cs.length≤vs.size ∧
   RL w (OA A B) B cs (vs.toList.take cs.length):=by
 obtain⟨e,he,hg,hn,hb⟩:=h.blk k g cs hk;refine⟨e,he,hg,hn,fun b hbb=>?_⟩
 obtain⟨vs,T,h1,h2,h3,h4⟩:=hb b hbb;refine⟨vs,T,h1,h2,h3,by simp;omega,fun i m v hm hv=>?_⟩
 obtain⟨u,hu,hr⟩:=h4 i m hm;rw[Tx] at hv
 split at hv
 ·rw[Array.getElem?_toList,hu] at hv
  cases hv;exact hr
 ·cases hv
theorem zM {n:Nat} {ag:Bool} {m r:MV} {v:Value} (hmr:MemRel A w B mem) (hv:VR w (OA A B) B m v) (h:ka mem n ag m=some r) :
  ∃ b off ms vs,v = .pointer (some ⟨b,off,none⟩)∧ms.length=n∧RL w (OA A B) B ms vs∧At w b off vs∧kR ag ms=some r:=by
 unfold ka at h
 split at h
 ·rename_i k g off
  split at h
  ·rename_i g' cs hk
   split at h
   ·rename_i hg
    subst hg;simp only[To] at h;obtain⟨ms,hms,hr⟩:=h;obtain⟨hl,rfl,hn⟩:=md hms;obtain⟨e,he,hge,hnn,hb⟩:=hmr.at_ hk
    cases hv with
    | ptr he' hg' hv' =>
     rw[he] at he'
     cases he'
     obtain⟨b,rfl,hbb⟩:=hv';have hbb:=hbb hge.symm;obtain⟨vs,T,hh,hz,hle,hrl⟩:=hb b hbb;refine⟨b,off,_,((vs.toList.take cs.length).drop off).take n,rfl,hn,(hrl.drop off).take n,?_,hr⟩;have:=(((At.row hh).take cs.length).add off).take n
     simpa using this
   ·cases h
  ·cases h
 ·rename_i ds
  simp only[To] at h;obtain⟨ms,hms,hr⟩:=h;obtain⟨hl,rfl,hn⟩:=md hms
  cases hv with
  | dat hd =>
   cases hd with
   | @ptr cs b off val hb hO hc hd =>
    refine⟨b,off,_,((TA ds.length).map val).take n,rfl,hn,?_,?_,hr⟩
    ·have:RL w (OA A B) B (ds.map .dat) ((TA ds.length).map val):=RL.dat (by simp) fun i d v h1 h2=>by
      have hi:i<ds.length:=(List.getElem?_eq_some_iff.1 h1).1;simp [hi] at h2;subst h2;exact hd i d h1
     simpa using this.take n
    ·refine At.take (fun j u hj=>?_) n
     simp only[Tv,Tp] at hj;obtain⟨j',hj',rfl⟩:=hj
     have h1:j'=j∧j<ds.length:=by
      rcases Tr j ds.length with h | h
      ·rw[List.getElem?_range h] at hj'
       exact⟨by simpa using hj'.symm,h⟩
      ·rw[TB (by simpa using h)] at hj'
       cases hj'
     obtain⟨rfl,hjl⟩:=h1;exact hc j' hjl
 ·cases h
theorem FY {t:TypeId} {n:Nat} {ag:Bool} {m r:MV} {v:Value} (hs:cN P t=some n) (ha:xq P t=some ag) (hmr:MemRel A w B mem) (hv:VR w (OA A B) B m v) (h:ka mem n ag m=some r) :
  ∃ u,(Instr.loadAt t v).run P w = .ok u w∧VR w (OA A B) B r u:=by
 obtain⟨b,off,ms,vs,rfl,hl,hrl,hat,hr⟩:=zM hmr hv h;obtain⟨u,h1,h2⟩:=wV (P:=P) hs ha hl hrl hat hr;exact⟨u,by simpa [Instr.loadAt,Instr.sureAddr] using h1,h2⟩
end
section
variable {P:Program} {w:World} {O:Nat→Prop} {B:Lay}
theorem BE {m:MV} {cs:List MV} {v:Value} (h:HL m=some cs) (hv:VR w O B m v):∃ vs:List Value,v = .agg vs.toArray∧RL w O B cs vs:=by
 unfold HL at h
 split at h
 ·cases h
  cases hv with
  | agg hl hd=>exact⟨_,rfl,hl,hd⟩
 ·cases h
  cases hv with
  | dat hd =>
   cases hd with
   | agg hl hd=>exact⟨_,rfl,RL.dat hl hd⟩
 ·cases h
theorem BD {neg:Bool} {ks:List Nat} {m n r:MV} {u v:Value} (t:TypeId) (x y:Operand) (fs:Array Field) (hu:P.underlying t=some (.struct fs)) (hs:P.stoodInHeld t=false)
  (hg:P.eqGuardType P.depth t=false) (hk:jx P 0 fs.toList=some ks) (hm:VR w O B m u) (hn:VR w O B n v) (h:Ih neg ks m n=some r) :
  ∃ z,((do eqGuard (if neg then .neq else .eql) t x y u v;binOp (if neg then .neq else .eql) t u v:Sem Value)).run P w = .ok z w∧VR w O B r z:=by
 unfold Ih at h
 split at h
 ·rename_i cs ds hcs hds
  split at h
  ·rename_i c hc
   cases h;obtain⟨xs,rfl,hx⟩:=BE hcs hm;obtain⟨ys,rfl,hy⟩:=BE hds hn;have hfo:P.fieldsOf t=fs:=by simp [Program.fieldsOf,hu]
   have he:=run_equalIn_struct (P:=P) w 9999 t xs.toArray ys.toArray (by rw[hfo];exact hu) hs;rw[hfo] at he
   have hf:=pJ (P:=P) (w:=w) (O:=O) (B:=B) (d:=9998) (xs:=xs.toArray) (ys:=ys.toArray) (cs:=cs) (ds:=ds)
    (fun i m v h1 h2=>hx.2 i m v h1 (by simpa using h2)) (by simpa using hx.1) (fun i m v h1 h2=>hy.2 i m v h1 (by simpa using h2)) (by simpa using hy.1) fs.toList 0 ks c hk (by simpa using hc)
   have heq:(Op.equal t (.agg xs.toArray) (.agg ys.toArray)).run P w = .ok c w:=by
    show (Op.equalIn (9999+1) t _ _).run P w=_;rw[he];exact hf
   have hgd:∀ op,(op=BinOp.eql∨op = .neq)→(eqGuard op t x y (.agg xs.toArray) (.agg ys.toArray)).run P w = .ok () w:=by
    intro op hop;rcases hop with rfl | rfl<;>simp [eqGuard,hg]
   refine⟨.bool (neg != c),?_,.dat .bool⟩
   cases neg
   ·simp only[Tq,if_false,Sem.run_bind,hgd _ (.inl rfl),Result.andThen_ok]
    show (do pure (Value.bool (←Op.equal t (.agg xs.toArray) (.agg ys.toArray))):Sem Value).run P w=_;simp [heq]
   ·simp only[if_true,Sem.run_bind,hgd _ (.inr rfl),Result.andThen_ok]
    show (do pure (Value.bool (!(←Op.equal t (.agg xs.toArray) (.agg ys.toArray)))):Sem Value).run P w=_;simp [heq]
  ·cases h
 ·cases h
theorem GU {c a b r:MV} {vc va vb:Value} (hc:VR w O B c vc) (ha:VR w O B a va) (hb:VR w O B b vb) (h:wJ c a b=some r) :
  ∃ z,(do pure (if ←asBool vc then va else vb):Sem Value).run P w = .ok z w∧VR w O B r z:=by
 unfold wJ at h
 split at h
 ·rename_i t
  cases hc.bool_inv
  cases t
  ·cases h;exact⟨vb,by simp [asBool],hb⟩
  ·cases h;exact⟨va,by simp [asBool],ha⟩
 ·cases h
theorem LF {op:UnOp} {m r:MV} {v:Value} (hm:VR w O B m v) (h:unM op m=some r):∃ z,(Op.unary op v).run P w = .ok z w∧VR w O B r z:=by
 unfold unM at h
 split at h
 ·cases h;cases hm.int_inv;exact⟨_,by simp [Op.unary,Op.intArith],.dat .int⟩
 ·cases h;cases hm.int_inv;exact⟨_,by simp [Op.unary,go_sem],.dat .int⟩
 ·cases h;cases hm.bool_inv;exact⟨_,by simp [Op.unary],.dat .bool⟩
 ·cases h
theorem GA {k:IntKind} {m r:MV} {v:Value} (s t:TypeId) (ks:IntKind) (hs:P.underlying s=some (.int ks)) (ht:P.underlying t=some (.int k)) (hm:VR w O B m v) (h:BL k m=some r) :
  ∃ z,(convert s t v).run P w = .ok z w∧VR w O B r z:=by
 unfold BL at h
 split at h
 ·cases h
  cases hm.int_inv;have hi:P.intKind t=k:=by simp [Program.intKind,ht]
  have:=run_convert_int (P:=P) w s t;exact⟨.int k _,by simp [convert,run_underlying hs,run_underlying ht,Conv.intToInt],.dat .int⟩
 ·cases h
theorem Ki {off:Nat} {m r:MV} {v:Value} (t:TypeId) (f:Nat) (fs:Array Field) (fd:Field) (s:Nat) (hu:P.underlying t=some (.struct fs)) (hf:fs[f]?=some fd) (hs:cN P fd.type=some s) (h0:0<s)
  (ho:fd.offset=off) (hm:VR w O B m v) (h:Ic off m=some r):∃ z,(Instr.fieldAt t v f).run P w = .ok z w∧VR w O B r z:=by
 have hne:¬ s=0:=by omega
 have run:∀ b o,(Instr.fieldAt t (.pointer (some ⟨b,o,none⟩)) f).run P w = .ok (.pointer (some ⟨b,o+off,none⟩)) w:=by
  intro b o;simp [Instr.fieldAt,run_underlying hu,hf,Instr.sureAddr,fieldPlace,eE hs,hne,i5,ho]
 unfold Ic at h
 split at h
 ·cases h
  rename_i k g o
  cases hm with
  | ptr he hg hv =>
   obtain⟨b,rfl,hb⟩:=hv;exact⟨_,run b o,.ptr he hg ⟨b,rfl,hb⟩⟩
 ·rename_i ds
  split at h
  ·rename_i hl
   cases h
   cases hm with
   | dat hd =>
    cases hd with
    | @ptr cs b o val hb hO hc hd =>
     refine⟨_,run b o,.dat (.ptr (fun i=>val (off+i)) hb hO (fun i hi=>?_) fun i d hid=>hd _ d (by simpa using hid))⟩;have:=hc (off+i) (by simp at hi;omega)
     rwa [←Ty] at this
  ·cases h
 ·cases h
theorem JN {t:TypeId} {n off:Nat} {ag:Bool} {cs ms:List MV} {vs:List Value} {r:MV} (hs:cN P t=some n) (ha:xq P t=some ag) (hrl:RL w O B cs vs) (hc:cut cs off n=some ms) (h:kR ag ms=some r) :
  ∃ u,(part t vs.toArray off).run P w = .ok u w∧VR w O B r u:=by
 obtain⟨hl,rfl,hn⟩:=md hc;have hr2:=(hrl.drop off).take n;unfold kR at h
 split at h
 ·rename_i hag
  cases h;subst hag;refine⟨.agg ((vs.drop off).take n).toArray,?_,.agg hr2.1 hr2.2⟩
  have e:vs.toArray.extract off (off+n)=((vs.drop off).take n).toArray:=by
   simp [List.extract_eq_take_drop]
  simp [part,p0 ha,eE hs,e]
 ·rename_i hag
  have hag':ag=false:=by simpa using hag
  subst hag'
  split at h
  ·rename_i m hms
   cases h
   have hi:cs[off]?=some r:=by
    have:=congrArg (fun l=>l[0]?) hms;simp [Tx] at this;exact this.2
   obtain⟨u,hu,hru⟩:=hrl.get hi;exact⟨u,by simp [part,p0 ha,hu],hru⟩
  ·cases h
theorem I1 {off n:Nat} {ag:Bool} {m r:MV} {v:Value} (t:TypeId) (f:Nat) (fs:Array Field) (fd:Field) (hu:P.underlying t=some (.struct fs)) (hf:fs[f]?=some fd) (hs:cN P fd.type=some n)
  (ha:xq P fd.type=some ag) (ho:fd.offset=off) (hm:VR w O B m v) (h:Km off n ag m=some r):∃ z,(Instr.field t v f).run P w = .ok z w∧VR w O B r z:=by
 subst ho
 have go:∀ (cs:List MV) (vs:List Value),RL w O B cs vs→(cut cs fd.offset n).bind (kR ag)=some r→∃ z,(Instr.field t (.agg vs.toArray) f).run P w = .ok z w∧VR w O B r z:=by
  intro cs vs hrl hh;simp only[To] at hh;obtain⟨ms,h1,h2⟩:=hh;obtain⟨u,h3,h4⟩:=JN (P:=P) hs ha hrl h1 h2;exact⟨u,by simp [Instr.field,run_underlying hu,hf,asAgg,h3],h4⟩
 unfold Km at h
 split at h
 ·cases hm with
  | agg hl hd=>exact go _ _ ⟨hl,hd⟩ h
 ·cases hm with
  | dat hd =>
   cases hd with
   | agg hl hd=>exact go _ _ (RL.dat hl hd) h
 ·cases h
theorem oz {m:MV} {n:Nat} {v:Value} (h:idx m=some n) (hv:VR w O B m v):∃ k,v = .int k (n:Int):=by
 unfold idx at h
 split at h
 ·rename_i k i
  split at h
  ·rename_i h0
   cases h
   cases hv.int_inv;exact⟨k,by rw[Int.toNat_of_nonneg h0]⟩
  ·cases h
 ·cases h
theorem RefOK.at_ {e:Bk} {g sz off len:Nat} {v:Value} (h:RefOK e g sz off len v) (h0:0<len):∃ b cap,v = .slice (some ⟨b,off,none⟩) len cap∧len≤cap∧cap≤maxLen∧(g=e.g→e.blk=some b∧off+cap*sz≤e.size):=by
 obtain⟨a,cap,rfl,h2,h3,h4⟩:=h;rcases h4 with h4 | ⟨b,rfl,h5⟩
 ·omega
 ·exact⟨b,cap,rfl,h2,h3,h5⟩
theorem zU {es:List (List Data)} {sz:Nat} (hsz:∀ e∈es,e.length=sz):∀ (n i:Nat) (e:List Data),es[n]?=some e→i<sz→es.flatten[n*sz+i]?=e[i]?:=by
 induction es with
 | nil=>intro n i e h;simp at h
 | cons a r ih =>
  intro n i e h hi;have ha:=hsz a (by simp)
  cases n with
  | zero =>
   simp at h;subst h;rw[Tc,List.getElem?_append_left (by omega)];simp
  | succ n =>
   rw[Tc,List.getElem?_append_right (by rw[ha,TC];omega)];have:=ih (fun x hx=>hsz x (by simp [hx])) n i e (by simpa using h) hi;rw[←this,ha]
   congr 1
   rw[TC];omega
theorem I7 {sz n:Nat} {m r:MV} {v:Value} {k:IntKind} (t e:TypeId) (hu:P.underlying t=some (.slice e)) (hs:cN P e=some sz) (hm:VR w O B m v) (h:xn sz n m=some r) :
  ∃ z,(Instr.indexAt t v (.int k (n:Int))).run P w = .ok z w∧VR w O B r z:=by
 have run:∀ b off len cap,n<len→(Instr.indexAt t (.slice (some ⟨b,off,none⟩) len cap) (.int k (n:Int))).run P w = .ok (.pointer (some ⟨b,off+n*sz,none⟩)) w:=by
  intro b off len cap hlt;simp [Instr.indexAt,run_underlying hu,asIntOf,hlt,eE hs,i5]
 unfold xn at h
 split at h
 ·split at h
  ·rename_i hl
   obtain⟨hlt,rfl⟩:=hl
   cases h
   cases hm with
   | ref he hg hv =>
    obtain⟨b,cap,rfl,h1,h2,h3⟩:=hv.at_ (by omega);exact⟨_,run _ _ _ _ hlt,.ptr he hg ⟨b,rfl,fun h=>(h3 h).1⟩⟩
  ·cases h
 ·rename_i es
  split at h
  ·rename_i el hel
   split at h
   ·rename_i hle
    cases h
    cases hm with
    | dat hd =>
     have hlt:n<es.length:=(List.getElem?_eq_some_iff.1 hel).1
     cases hd with
     | sl0=>simp at hlt
     | @sl es b off c sz' val hl hmm hb hO hsz hc hd =>
      have hszz:sz'=sz:=by rw[←hle];exact (hsz _ (List.mem_of_getElem? hel)).symm
      subst hszz
      have hmul:n*sz'+sz'≤es.length*sz':=by
       have:(n+1)*sz'≤es.length*sz':=TD _ hlt
       rwa [Te,Tf] at this
      refine⟨_,run _ _ _ _ hlt,.dat (.ptr (fun i=>val (n*sz'+i)) hb hO (fun i hi=>?_) fun i d hid=>?_)⟩
      ·have:=hc (n*sz'+i) (by omega)
       rwa [←Ty] at this
      ·refine hd _ d ?_
       rw[zU hsz n i el hel (by have:=(List.getElem?_eq_some_iff.1 hid).1;omega)];exact hid
   ·cases h
  ·cases h
 ·cases h
theorem Fg {len sz n:Nat} {m r:MV} {v:Value} {k:IntKind} (t e:TypeId) (hu:P.underlying t=some (.array len e)) (hs:cN P e=some sz) (hm:VR w O B m v) (h:Ae len sz n m=some r) :
  ∃ z,(Instr.indexAt t v (.int k (n:Int))).run P w = .ok z w∧VR w O B r z:=by
 have run:∀ b off,n<len→(Instr.indexAt t (.pointer (some ⟨b,off,none⟩)) (.int k (n:Int))).run P w = .ok (.pointer (some ⟨b,off+n*sz,none⟩)) w:=by
  intro b off hlt;simp [Instr.indexAt,run_underlying hu,asIntOf,Instr.sureAddr,hlt,eE hs,i5]
 unfold Ae at h
 split at h
 ·split at h
  ·rename_i hlt
   cases h
   cases hm with
   | ptr he hg hv =>
    obtain⟨b,rfl,hb⟩:=hv;exact⟨_,run _ _ hlt,.ptr he hg ⟨b,rfl,hb⟩⟩
  ·cases h
 ·rename_i ds
  split at h
  ·rename_i hl
   obtain⟨hlt,hle⟩:=hl
   cases h
   cases hm with
   | dat hd =>
    cases hd with
    | @ptr cs b o val hb hO hc hd =>
     refine⟨_,run _ _ hlt,.dat (.ptr (fun i=>val (n*sz+i)) hb hO (fun i hi=>?_) fun i d hid=>hd _ d (by simpa using hid))⟩;have:=hc (n*sz+i) (by simp at hi;omega)
     rwa [←Ty] at this
  ·cases h
 ·cases h
theorem Ho {n:Nat} {m r:MV} {v:Value} {k:IntKind} (t:TypeId) (hu:P.underlying t=some .string) (hm:VR w O B m v) (h:AB n m=some r) :
  ∃ z,(Instr.index t v (.int k (n:Int))).run P w = .ok z w∧VR w O B r z:=by
 unfold AB at h
 split at h
 ·rename_i s
  simp only[Tp] at h;obtain⟨b,hb,rfl⟩:=h
  cases hm.str_inv;have hlt:n<s.length:=(List.getElem?_eq_some_iff.1 hb).1
  have e:(ByteArray.mk s.toArray)[n]?=some b:=by
   rw[ByteArray.getElem?_lt' _ _ (by simpa [ByteArray.size] using hlt)];have:=(List.getElem?_eq_some_iff.1 hb).2;simp only[Option.some.injEq];rw[←this]
   rfl
  exact⟨.int .u8 b.toNat,by simp [Instr.index,run_underlying hu,asIntOf,e],.dat .int⟩
 ·cases h
theorem Im {i:Nat} {m r:MV} {v:Value} (hm:VR w O B m v) (h:H7 i m=some r):∃ z,(Instr.extract v i).run P w = .ok z w∧VR w O B r z:=by
 unfold H7 at h
 split at h
 ·cases hm with
  | tup hl hd =>
   obtain⟨u,hu,hr⟩:=RL.get ⟨hl,hd⟩ h;exact⟨u,by simp [Instr.extract,hu],hr⟩
 ·simp only[Tp] at h
  obtain⟨d,hd',rfl⟩:=h
  cases hm with
  | dat hd =>
   cases hd with
   | tup hl hd =>
    obtain⟨u,hu,hr⟩:=RL.get (RL.dat hl hd) (i:=i) (m:=.dat d) (by simp [hd']);exact⟨u,by simp [Instr.extract,hu],hr⟩
 ·cases h
theorem HR {m:MV} {n:Nat} {v:Value} (t ty e:TypeId) (ht:P.underlying t=some (.slice e)) (hm:VR w O B m v) (h:oO m=some n) :
  (Builtin.len_ #[t] ty #[v]).run P w = .ok (.int .i64 n) w:=by
 have run:∀ a c,(Builtin.len_ #[t] ty #[.slice a n c]).run P w = .ok (.int .i64 n) w:=fun a c=>by
  simp [Builtin.len_,run_underlying ht,goInt]
 unfold oO at h
 split at h<;>cases h
 ·cases hm with
  | dat hd =>
   cases hd with
   | sl0=>exact run _ _
   | sl=>exact run _ _
 ·cases hm with
  | nil=>exact run _ _
 ·cases hm with
  | ref he hg hv=>obtain⟨a,cap,rfl,_⟩:=hv;exact run _ _
theorem Hm {m:MV} {n:Nat} {v:Value} (t ty:TypeId) (ht:P.underlying t=some .string) (hm:VR w O B m v) (h:qC m=some n) :
  (Builtin.len_ #[t] ty #[v]).run P w = .ok (.int .i64 n) w:=by
 unfold qC at h
 split at h<;>cases h
 rename_i s
 cases hm.str_inv;have e:(ByteArray.mk s.toArray).size=s.length:=by simp [ByteArray.size]
 simp [Builtin.len_,run_underlying ht,goInt,e]
theorem Eu {mx:Bool} {m n r:MV} {u v:Value} (ts:Array TypeId) (t:TypeId) (hm:VR w O B m u) (hn:VR w O B n v) (h:mmM mx m n=some r) :
  ∃ z,(if mx=true then Builtin.max_ ts t #[u,v] else Builtin.min_ ts t #[u,v]).run P w = .ok z w∧VR w O B r z:=by
 unfold mmM at h
 split at h
 ·split at h
  ·rename_i hk
   subst hk
   cases h
   cases hm.int_inv
   cases hn.int_inv
   cases mx
   ·exact⟨_,by simp [run_min_int2],.dat .int⟩
   ·exact⟨_,by simp [run_max_int2],.dat .int⟩
  ·cases h
 ·cases h
theorem Hl {m r:MV} {v:Value} (hm:VR w O B m v) (h:Aj m=some r):(∃ b off,v = .pointer (some ⟨b,off,none⟩))∧VR w O B r v:=by
 unfold Aj at h
 split at h
 ·cases h
  refine⟨?_,hm⟩
  cases hm with
  | ptr he hg hv=>obtain⟨b,rfl,_⟩:=hv;exact⟨_,_,rfl⟩
 ·cases h
  refine⟨?_,hm⟩
  cases hm with
  | dat hd=>cases hd;exact⟨_,_,rfl⟩
 ·cases h
theorem kA {x:MV} {n y:Nat} {v:Value} (code:BoundsCode) (hx:idx x=some n) (hv:VR w O B x v) (hn:n≤y):(Instr.sliceBound v y code).run P w = .ok n w:=by
 obtain⟨k,rfl⟩:=oz hx hv
 simpa using run_sliceBound (P:=P) w k (n:Int) y code (by omega) (by omega)
def OR (w:World) (O:Nat→Prop) (B:Lay):Option MV→Option Value→Prop
 | none,none=>True
 | some m,some v=>VR w O B m v
 | _,_=>False
theorem pd {len cap l h:Nat} {lo hi:Option MV} {vlo vhi:Option Value} (isS:Bool) (hlo:iV 0 lo=some l) (hhi:iV len hi=some h)
  (rlo:OR w O B lo vlo) (rhi:OR w O B hi vhi) (hl:l≤h) (hh:h≤cap):(Instr.sliceBounds isS len cap vlo vhi none).run P w = .ok (l,h,cap) w:=by
 unfold Instr.sliceBounds
 cases lo with
 | none =>
  cases vlo with
  | some v=>exact rlo.elim
  | none =>
   simp [iV] at hlo;subst hlo
   cases hi with
   | none =>
    cases vhi with
    | some v=>exact rhi.elim
    | none=>simp [iV] at hhi;subst hhi;simp
   | some m =>
    cases vhi with
    | none=>exact rhi.elim
    | some v =>
     have e2:=fun code=>kA (P:=P) (y:=cap) code hhi rhi hh
     cases isS<;>simp [e2]
 | some ml =>
  cases vlo with
  | none=>exact rlo.elim
  | some vl =>
   have e1:=fun code=>kA (P:=P) (y:=h) code hlo rlo hl
   cases hi with
   | none =>
    cases vhi with
    | some v=>exact rhi.elim
    | none=>simp [iV] at hhi;subst hhi;simp [e1]
   | some m =>
    cases vhi with
    | none=>exact rhi.elim
    | some v =>
     have e2:=fun code=>kA (P:=P) (y:=cap) code hhi rhi hh
     cases isS<;>simp [e1,e2]
theorem zt {len cap l h m:Nat} {lo:Option MV} {hi mx:MV} {vlo:Option Value} {vhi vmx:Value} (hlo:iV 0 lo=some l) (hhi:idx hi=some h) (hmx:idx mx=some m)
  (rlo:OR w O B lo vlo) (rhi:VR w O B hi vhi) (rmx:VR w O B mx vmx) (hl:l≤h) (hh:h≤m) (hm:m≤cap):(Instr.sliceBounds true len cap vlo (some vhi) (some vmx)).run P w = .ok (l,h,m) w:=by
 have e0:=kA (P:=P) (y:=cap) .slice3Acap hmx rmx hm;have e2:=kA (P:=P) (y:=m) .slice3B hhi rhi hh;unfold Instr.sliceBounds
 cases lo with
 | none =>
  cases vlo with
  | some v=>exact rlo.elim
  | none =>
   simp [iV] at hlo;subst hlo;simp [e0,e2]
 | some ml =>
  cases vlo with
  | none=>exact rlo.elim
  | some vl =>
   have e1:=kA (P:=P) (y:=h) .slice3C hlo rlo hl;simp [e0,e2,e1]
theorem mU {m:MV} {n:Nat} {v:Value} (hm:VR w O B m v) (h:oO m=some n):∃ a c,v = .slice a n c∧n≤c:=by
 unfold oO at h
 split at h<;>cases h
 ·cases hm with
  | dat hd =>
   cases hd with
   | sl0=>exact⟨_,_,rfl,by simp⟩
   | sl val hl=>exact⟨_,_,rfl,hl⟩
 ·cases hm with
  | nil=>exact⟨_,_,rfl,by simp⟩
 ·cases hm with
  | ref he hg hv=>obtain⟨a,cap,rfl,h1,_⟩:=hv;exact⟨_,_,rfl,h1⟩
theorem wH {t e:TypeId} {sz l h mm:Nat} {a:Option Addr} {len cap:Nat} {vlo vhi vmx:Option Value} (ht:P.underlying t=some (.slice e)) (hs:cN P e=some sz)
  (hb:(Instr.sliceBounds true len cap vlo vhi vmx).run P w = .ok (l,h,mm) w) :
  (Instr.sliceAt t (.slice a len cap) vlo vhi vmx).run P w = .ok (.slice (if mm=l then a else a.map (·.add (l*sz))) (h-l) (mm-l)) w:=by
 simp [Instr.sliceAt,Instr.slice,run_underlying ht,hb,eE hs]
theorem xY {es:List (List Data)} {sz:Nat} (hsz:∀ e∈es,e.length=sz) (l:Nat):(es.drop l).flatten=es.flatten.drop (l*sz):=by
 induction es generalizing l with
 | nil=>simp
 | cons a r ih =>
  cases l with
  | zero=>simp
  | succ l =>
   have ha:=hsz a (by simp);rw[List.drop_succ_cons,ih (fun x hx=>hsz x (by simp [hx])) l,Tc,List.drop_append,ha];have h1:a.drop ((l+1)*sz)=[]:=Ts (by rw[ha,TC];omega);rw[h1,List.nil_append]
   congr 1
   rw[TC];omega
theorem yW {es:List (List Data)} {sz:Nat} (hsz:∀ e∈es,e.length=sz) (l:Nat):(es.take l).flatten=es.flatten.take (l*sz):=by
 induction es generalizing l with
 | nil=>simp
 | cons a r ih =>
  cases l with
  | zero=>simp
  | succ l =>
   have ha:=hsz a (by simp);rw[List.take_succ_cons,Tc,ih (fun x hx=>hsz x (by simp [hx])) l,Tc,TE,ha];have h1:a.take ((l+1)*sz)=a:=TF (by rw[ha,TC];omega);rw[h1]
   congr 2
   rw[TC];omega
theorem BA {es:List (List Data)} {a:Option Addr} {len c sz l h cc:Nat} (hd:Den w O (.sl es) (.slice a len c)) (hl:l≤h) (hh:h≤es.length) (hsz:0<es.length→∀ e∈es,e.length=sz) (hc:h-l≤cc) :
  l=h∨Den w O (.sl ((es.take h).drop l)) (.slice (a.map (·.add (l*sz))) (h-l) cc):=by
 rcases TG hl with rfl | hlt
 ·exact .inl rfl
 ·refine .inr ?_
  cases hd with
  | sl0=>simp at hh;omega
  | @sl es b off c sz' val hl' hm hb hO hsz' hcell hdd =>
   have hpos:0<es.length:=by omega
   have hszz:sz'=sz:=by
    have h0:=TH (l:=es) (n:=0) hpos;rw[←hsz' _ h0,hsz hpos _ h0]
   subst hszz;have hlen:((es.take h).drop l).length=h-l:=by simp;omega
   have hmul:l*sz'+(h-l)*sz'≤es.length*sz':=by
    rw[←Te];exact TD _ (by omega)
   have:=Den.sl (w:=w) (O:=O) (es:=(es.take h).drop l) (b:=b) (off:=off+l*sz') (c:=cc) (sz:=sz') (fun i=>val (l*sz'+i)) (by rw[hlen];exact hc) (by rw[hlen];omega) hb hO
    (fun e he=>hsz' e (TI (List.mem_of_mem_drop he)))
    (fun i hi=>by
     rw[hlen] at hi;have:=hcell (l*sz'+i) (by omega)
     rwa [←Ty] at this)
    (fun i d hid=>by
     refine hdd _ d ?_;rw[xY (fun e he=>hsz' e (TI he)) l,yW hsz' h] at hid;rw[List.getElem?_drop,Tx] at hid
     split at hid
     ·exact hid
     ·cases hid)
   rw[hlen] at this
   simpa [i5] using this
end
section
variable {P:Program} {w:World} {O:Nat→Prop} {B:Lay}
theorem rg {sz:Nat} {es:List (List Data)} (h:oS sz es=true):∀ e∈es,e.length=sz:=fun e he=>by
 simpa using List.all_eq_true.1 h e he
theorem I2 {t e:TypeId} {sz l h len:Nat} {m r:MV} {v:Value} {vlo vhi:Option Value} {lo hi:Option MV} (ht:P.underlying t=some (.slice e)) (hs:cN P e=some sz)
  (hlo:iV 0 lo=some l) (hlen:oO m=some len) (hhi:iV len hi=some h) (rlo:OR w O B lo vlo) (rhi:OR w O B hi vhi) (hm:VR w O B m v) (hr:IL sz l h m=some r) :
  ∃ z,(Instr.sliceAt t v vlo vhi none).run P w = .ok z w∧VR w O B r z:=by
 obtain⟨a,cap,rfl,hcap⟩:=mU hm hlen
 have run:l≤h→h≤len→(Instr.sliceAt t (.slice a len cap) vlo vhi none).run P w = .ok (.slice (if cap=l then a else a.map (·.add (l*sz))) (h-l) (cap-l)) w:=fun h1 h2 =>
  wH ht hs (pd true hlo hhi rlo rhi h1 (by omega))
 unfold IL at hr
 split at hr
 ·rename_i es
  split at hr
  ·rename_i hc
   obtain⟨h1,h2,h3⟩:=hc
   cases hr;simp only[oO,Option.some.injEq] at hlen;subst hlen;refine⟨_,run h1 h2,.dat ?_⟩
   cases hm with
   | dat hd =>
    rcases BA (sz:=sz) hd h1 h2 (fun _=>rg h3) (cc:=cap-l) (by omega) with rfl | hp
    ·rw[show ((es.take l).drop l)=[] from by simp]
     rw[TJ];exact .sl0
    ·rcases TG h1 with rfl | hlt
     ·rw[show ((es.take l).drop l)=[] from by simp]
      rw[TJ];exact .sl0
     ·rw[if_neg (by omega)]
      exact hp
  ·cases hr
 ·split at hr
  ·rename_i hc
   obtain⟨rfl,rfl⟩:=hc
   cases hr
   cases hm with
   | nil=>exact⟨_,run (by omega) (by omega),by simpa using VR.nil⟩
  ·cases hr
 ·split at hr
  ·rename_i k g sz' off len' hc
   obtain⟨rfl,h1,h2⟩:=hc
   cases hr;simp only[oO,Option.some.injEq] at hlen;subst hlen
   cases hm with
   | ref he hg hv =>
    refine⟨_,run h1 h2,.ref he hg ?_⟩;obtain⟨a',cap',hv1,hv2,hv3,hv4⟩:=hv
    injection hv1 with e1 e2 e3
    subst e1;subst e3
    refine⟨_,cap-l,rfl,by omega,by omega,?_⟩
    rcases Nat.eq_zero_or_pos (cap-l) with h0 | h0
    ·exact .inl h0
    ·refine .inr ?_
     rcases hv4 with h4 | ⟨b,rfl,h5⟩
     ·omega
     ·refine⟨b,by rw[if_neg (by omega)];simp [i5],fun hge=>?_⟩
      obtain⟨h6,h7⟩:=h5 hge;refine⟨h6,?_⟩;rw[Ty,←Te]
      rwa [show l+(cap-l)=cap from by omega]
  ·cases hr
 ·cases hr
theorem F9 {t e:TypeId} {sz l h mm:Nat} {m r:MV} {v:Value} {vlo:Option Value} {vhi vmx:Value} {lo:Option MV} {hi mx:MV} (ht:P.underlying t=some (.slice e)) (hs:cN P e=some sz)
  (hlo:iV 0 lo=some l) (hhi:idx hi=some h) (hmx:idx mx=some mm) (rlo:OR w O B lo vlo) (rhi:VR w O B hi vhi) (rmx:VR w O B mx vmx) (hm:VR w O B m v) (hr:Br sz l h mm m=some r) :
  ∃ z,(Instr.sliceAt t v vlo (some vhi) (some vmx)).run P w = .ok z w∧VR w O B r z:=by
 have run:∀ a len cap,l≤h→h≤mm→mm≤len→len≤cap→(Instr.sliceAt t (.slice a len cap) vlo (some vhi) (some vmx)).run P w = .ok (.slice (if mm=l then a else a.map (·.add (l*sz))) (h-l) (mm-l)) w :=
  fun a len cap h1 h2 h3 h4=>wH ht hs (zt hlo hhi hmx rlo rhi rmx h1 h2 (by omega))
 unfold Br at hr
 split at hr
 ·rename_i es
  split at hr
  ·rename_i hc
   obtain⟨h1,h2,h3,h4⟩:=hc;obtain⟨a,cap,rfl,hcap⟩:=mU hm (n:=es.length) rfl;refine⟨_,run a _ cap h1 h2 h3 hcap,?_⟩
   split at hr
   ·rename_i hml
    cases hr;subst hml;have:h=mm:=by omega
    subst this
    simpa using VR.nil
   ·rename_i hml
    cases hr;rw[if_neg hml]
    cases hm with
    | dat hd =>
     refine .dat ?_;rcases TG h1 with rfl | hlt
     ·rw[show ((es.take l).drop l)=[] from by simp]
      rw[TJ];exact .sl0
     ·rcases BA (sz:=sz) hd h1 (by omega) (fun _=>rg h4) (cc:=mm-l) (by omega) with h0 | hp
      ·omega
      ·exact hp
  ·cases hr
 ·split at hr
  ·rename_i hc
   obtain⟨rfl,rfl,rfl⟩:=hc
   cases hr;obtain⟨a,cap,rfl,hcap⟩:=mU hm (n:=0) rfl;exact⟨_,run a _ cap (by omega) (by omega) (by omega) hcap,by simpa using VR.nil⟩
  ·cases hr
 ·rename_i k g sz' off len
  split at hr
  ·rename_i hc
   obtain⟨h1,h2,h3,rfl⟩:=hc
   cases hr;obtain⟨a,cap,rfl,hcap⟩:=mU hm (n:=len) rfl;have:h=mm:=by omega
   subst this;exact⟨_,run a _ cap (by omega) (by omega) (by omega) hcap,by simpa using VR.nil⟩
  ·cases hr
 ·cases hr
theorem Gl {t:TypeId} {l h len:Nat} {m r:MV} {v:Value} {vlo vhi:Option Value} {lo hi:Option MV} (ht:P.underlying t=some .string)
  (hlo:iV 0 lo=some l) (hlen:qC m=some len) (hhi:iV len hi=some h) (rlo:OR w O B lo vlo) (rhi:OR w O B hi vhi) (hm:VR w O B m v) (hr:BO l h m=some r) :
  ∃ z,(Instr.sliceAt t v vlo vhi none).run P w = .ok z w∧VR w O B r z:=by
 unfold BO at hr
 split at hr
 ·rename_i s
  split at hr
  ·rename_i hc
   obtain⟨h1,h2⟩:=hc
   cases hr;simp only[qC,Option.some.injEq] at hlen;subst hlen
   cases hm.str_inv;have e:(ByteArray.mk s.toArray).size=s.length:=by simp [ByteArray.size]
   have hb:=pd (P:=P) (w:=w) (O:=O) (B:=B) (cap:=s.length) false hlo hhi rlo rhi h1 h2
   have hx:(ByteArray.mk s.toArray).extract l h=⟨((s.take h).drop l).toArray⟩:=by
    rw[ByteArray.extract_mk,TK]
   exact⟨.string ⟨((s.take h).drop l).toArray⟩,by simp [Instr.sliceAt,Instr.slice,run_underlying ht,e,hb,hx],.dat .str⟩
  ·cases hr
 ·cases hr
theorem Ab (off:Nat):∀ (l:List Value) (k:Nat) (cs:Array Value),off+k+l.length≤cs.size →
  (l.zipIdx k).foldl (fun (cs:Array Value) (p:Value × Nat)=>cs.setIfInBounds (off+p.2) p.1) cs=(cs.toList.take (off+k)++l++cs.toList.drop (off+k+l.length)).toArray
 | [],k,cs,_=>by simp
 | a::l,k,cs,h=>by
  rw[List.zipIdx_cons,List.foldl_cons];have h':off+k<cs.size:=by simp at h;omega
  rw[Ab off l (k+1) (cs.setIfInBounds (off+k) a) (by simp at h ⊢;omega)];apply Array.ext';simp only[Array.toList_setIfInBounds];have:=list_seg_step cs.toList (off+k) a l (by simp at h ⊢;omega)
  simpa [Ty] using this
theorem qT {place:Nat→Option (Nat × Nat)} {ρ:Operand→Value} {tm:Nat→MV} (hρ:∀ x y,bq x=some y→VR w O B (ev tm y) (ρ x)) :
  ∀ (ps:List (Nat × Operand)) (qs:List (Nat × Nat × Opd)) (cs r:List MV) (vs:Array Value),iQ place ps=some qs→RL w O B cs vs.toList→fg (ev tm) cs qs=some r →
   ∃ vs':Array Value,Instr.fill place vs (ps.map fun p=>(p.1,ρ p.2))=some vs'∧RL w O B r vs'.toList
 | [],qs,cs,r,vs,hp,hrl,h=>by
  simp [iQ] at hp;subst hp;simp [fg] at h;subst h;exact⟨vs,rfl,hrl⟩
 | (i,x)::ps,qs,cs,r,vs,hp,hrl,h=>by
  simp only[iQ,Tk,Tm,Tn,To,Option.some.injEq] at hp;obtain⟨q,hq,qs',hqs,rfl⟩:=hp;obtain⟨⟨o,s⟩,hpl,y,hy,rfl⟩:=hq;simp only[fg] at h
  split at h
  ·rename_i hc
   obtain⟨h0,h1,h2⟩:=hc;have hvr:=hρ x y hy;have hund:ev tm y ≠ .undef:=fun e=>by rw[e] at h0;simp [MV.known] at h0
   ·have hrc:=RL.of_cells hvr hund
    have hsz:(ρ x).cells.size=s:=by have:=hrc.1;simp at this;omega
    have hfit:o+s≤vs.size:=by have:=hrl.1;simp at this;omega
    have hfold:=Ab o (ρ x).cells.toList 0 vs (by simp [hsz];exact hfit);simp only[TL,Array.length_toList] at hfold;have hspl:=hrl.splice hrc o;obtain⟨vs',hf,hr'⟩:=qT hρ ps qs' _ r ((vs.toList.take o++(ρ x).cells.toList++vs.toList.drop (o+(ρ x).cells.size)).toArray) hqs (by simpa using hspl) h;refine⟨vs',?_,hr'⟩;simp only[List.map_cons,Instr.fill,hpl];rw[if_neg (by simp [hsz];omega)]
    have hz:(ρ x).cells.zipIdx.foldl (fun cs (p:Value × Nat)=>cs.setIfInBounds (o+p.2) p.1) vs=(vs.toList.take o++(ρ x).cells.toList++vs.toList.drop (o+(ρ x).cells.size)).toArray:=by
     rw[←Array.foldl_toList,Array.toList_zipIdx];exact hfold
    rw[←hf]
    congr 1
  ·cases h
end
section
variable {P:Program} {A:Nat→Prop} {w:World} {B:Lay} {mem:Mem}
theorem jl {O:Nat→Prop} {t:TypeId} {z:List MV} (h:g8 P t=some z):∃ i zv,P.info? t=some i∧i.zero=some zv∧RL w O B z zv.cells.toList:=by
 simp only[g8,To] at h;obtain⟨zv,⟨i,hi,hz⟩,hm⟩:=h;obtain⟨h1,h2⟩:=dh hm;exact⟨i,zv,hi,hz,by simp [h1],fun j m v hmj hvj=>tH (h2 j v m hvj hmj)⟩
theorem jB {t:TypeId} {i:TypeInfo} {zv:Value} (hi:P.info? t=some i) (hz:i.zero=some zv):(zeroValue t).run P w = .ok zv w:=by
 simp [zeroValue,typeInfo,hi,hz]
theorem wX {t:TypeId} {i:TypeInfo} {n:Nat} (hi:P.info? t=some i) (hs:cN P t=some n):i.size=n:=by
 simpa [cN,hi] using hs
theorem tI {t:TypeId} {i:TypeInfo} {n:Nat} (hi:P.info? t=some i) (hs:rt P t=some n):i.bytes=n:=by
 simpa [rt,hi] using hs
theorem rm {z:Array Value} (h0:0<z.size):∀ n,((Array.range (n*z.size)).map (z[· % z.size]!)).toList=(Tj n z.toList).flatten
 | 0=>by simp
 | n+1=>by
  have ih:=rm h0 n;apply List.ext_getElem?;intro i
  have e1:∀ m i,((Array.range (m*z.size)).map (z[· % z.size]!)).toList[i]?=if i<m*z.size then some (z[i % z.size]!) else none:=by
   intro m i;rw[Array.getElem?_toList,Array.getElem?_map]
   by_cases hi:i<m*z.size
   ·rw[if_pos hi,Array.getElem?_range]
    simp [hi]
   ·rw[if_neg hi,Array.getElem?_range]
    simp [hi]
  rw[e1,List.replicate_succ',List.flatten_append,Tw,←ih];have el:((Array.range (n*z.size)).map (z[· % z.size]!)).toList.length=n*z.size:=by simp
  rw[el];have hmul:(n+1)*z.size=n*z.size+z.size:=by rw[Te,Tf]
  by_cases hi:i<n*z.size
  ·rw[if_pos hi,if_pos (by omega),e1,if_pos hi]
  ·rw[if_neg hi]
   by_cases hi2:i<(n+1)*z.size
   ·rw[if_pos hi2]
    have hlt:i-n*z.size<z.size:=by omega
    have hmod:i % z.size=i-n*z.size:=by
     have e:i=(i-n*z.size)+z.size*n:=by have:=Nat.mul_comm n z.size;omega
     have e2:((i-n*z.size)+z.size*n) % z.size=i-n*z.size:=by rw[Nat.add_mul_mod_self_left,Nat.mod_eq_of_lt hlt]
     rwa [←e] at e2
    rw[hmod];simp [hlt]
   ·rw[if_neg hi2]
    symm
    rw[TB];simp;omega
theorem RL.replicate {O:Nat→Prop} {z:List MV} {zs:List Value} (h:RL w O B z zs):∀ n,RL w O B (Tj n z).flatten (Tj n zs).flatten
 | 0=>by simpa using RL.nil
 | n+1=>by
  rw[TM,Tc,TM,Tc];exact h.append (RL.replicate h n)
theorem RL.keep {cs:List MV} {vs:List Value} {w':World} {B':Lay} (t:Trans A w B w' B') (h:RL w (OA A B) B cs vs):RL w' (OA A B') B' cs vs :=
 ⟨h.1,fun i m v h1 h2=>(h.2 i m v h1 h2).keep t⟩
theorem nG {cs:List MV} (hmr:MemRel A w B mem) (w1:World) (f:Fr (fun _=>False) w w1) (hz:w1.heap.size=w.heap.size) (k:Key) (vs:Array Value) (T:TypeId) (hl:cs.length≤vs.size)
  (hrl:RL w (OA A B) B cs (vs.toList.take cs.length)):StepOK A w B (w1.alloc (.cells vs T)) (fx B k ⟨aD mem k,some w.heap.size,vs.size⟩) (aA mem k (aD mem k) cs) :=
 StepOK.alloc hmr w1 f hz k vs T hl fun i m hm=>by
  obtain⟨v,hv,hr⟩:=hrl.get hm;rw[Tx] at hv
  split at hv
  ·exact⟨v,by simpa using hv,hr⟩
  ·cases hv
theorem GB {t:TypeId} {z:List MV} (k:Key) (hmr:MemRel A w B mem) (hz:g8 P t=some z) :
  ∃ v w' B',(Instr.alloc t true (.tuple #[])).run P w = .ok v w'∧StepOK A w B w' B' (aA mem k (aD mem k) z)∧VR w' (OA A B') B' (.ptr k (aD mem k) 0) v:=by
 obtain⟨i,zv,hi,hzv,hrl⟩:=jl (P:=P) (w:=w) (B:=B) (O:=OA A B) hz;have hl:z.length=zv.cells.size:=by have:=hrl.1;simp at this;omega
 refine⟨.pointer (some ⟨w.heap.size,0,none⟩),w.alloc (.cells zv.cells t),_,?_,nG hmr w (Fr.refl _ _) rfl k zv.cells t (by omega) (by rw[TF (by simp;omega)];exact hrl),?_⟩
 ·simp [Instr.alloc,jB hi hzv,newVar,newRow]
 ·exact .ptr (aX _ _ _) (Tg _) ⟨_,rfl,fun _=>rfl⟩
theorem MJ {t:TypeId} {m:MV} {u:Value} (k:Key) (hmr:MemRel A w B mem) (hu:VR w (OA A B) B m u) (hk:m.known=true) :
  ∃ v w' B',(Instr.box t u).run P w = .ok v w'∧StepOK A w B w' B' (aA mem k (aD mem k) m.cells)∧VR w' (OA A B') B' (.ptr k (aD mem k) 0) v:=by
 have hrl:=RL.of_cells hu (fun e=>by rw[e] at hk;simp [MV.known] at hk);have hl:m.cells.length=u.cells.size:=by have:=hrl.1;simp at this;omega
 refine⟨.pointer (some ⟨w.heap.size,0,none⟩),w.alloc (.cells u.cells t),_,?_,nG hmr w (Fr.refl _ _) rfl k u.cells t (by omega) (by rw[TF (by simp;omega)];exact hrl),?_⟩
 ·simp [Instr.box,newVar,newRow]
 ·exact .ptr (aX _ _ _) (Tg _) ⟨_,rfl,fun _=>rfl⟩
theorem JV {t e:TypeId} {z:List MV} {bytes n c:Nat} {m1 m2:MV} {u1 u2:Value} {r:MV} {ef:Option (Key × Nat × List MV)} (k:Key) (hmr:MemRel A w B mem) (ht:P.underlying t=some (.slice e)) (hz:g8 P e=some z) (hs:cN P e=some z.length)
  (hb:rt P e=some bytes) (h1:idx m1=some n) (h2:idx m2=some c) (r1:VR w (OA A B) B m1 u1) (r2:VR w (OA A B) B m2 u2) (h0:0<z.length) (h:ws k (aD mem k) z bytes n c=some (r,ef)) :
  ∃ v w' B',(Instr.makeSlice t u1 u2).run P w = .ok v w'∧StepOK A w B w' B' (ig mem ef)∧VR w' (OA A B') B' r v:=by
 unfold ws at h
 split at h
 ·rename_i hc
  obtain⟨rfl,hbytes,hmax⟩:=hc
  cases h;obtain⟨k1,rfl⟩:=oz h1 r1;obtain⟨k2,rfl⟩:=oz h2 r2;obtain⟨i,zv,hi,hzv,hrl⟩:=jl (P:=P) (w:=w) (B:=B) (O:=OA A B) hz;have hl:z.length=zv.cells.size:=by have:=hrl.1;simp at this;omega
  have hsz:=wX hi hs;have hby:=tI hi hb
  have hrun:=run_make (P:=P) w t e i zv ht hi hzv k1 k2 (n:Int) (n:Int) (by omega) (by omega) (by
   have:((i.bytes*n:Nat):Int)≤281474976710656:=by rw[hby];omega
   rwa [Int.natCast_mul] at this) (by unfold maxLen at hmax;omega)
  simp only[Int.toNat_natCast] at hrun
  have hcells:(madeCells zv.cells (n*i.size)).toList=(Tj n zv.cells.toList).flatten:=by
   rw[hsz,hl];exact rm (by omega) n
  have hsize:(madeCells zv.cells (n*i.size)).size=n*z.length:=by rw[size_madeCells,hsz]
  have hrep:=hrl.replicate (n:=n)
  have hlen:(Tj n z).flatten.length=n*z.length:=by
   have:=hrep.1;rw[←this,←hcells,Array.length_toList,hsize]
  refine⟨_,_,_,hrun,nG hmr w (Fr.refl _ _) rfl k _ e (by rw[hsize,hlen];exact Tg _) ?_,?_⟩
  ·rw[TF (by rw[Array.length_toList,hsize,hlen];exact Tg _),hcells]
   exact hrep
  ·refine .ref (aX _ _ _) (Tg _) ⟨_,n,rfl,Tg _,hmax,.inr ⟨_,rfl,fun _=>⟨rfl,?_⟩⟩⟩
   simp only[Tz];rw[hsize];exact Tg _
 ·cases h
theorem HP (hmr:MemRel A w B mem) {k:Key} {g:Nat} {cs new:List MV} {e:Bk} {b:Nat} {vs:Array Value} {T:TypeId} {vals:List Value} {off:Nat} (hk:mem k=some (g,cs)) (he:B k=some e) (hb:e.blk=some b)
  (hh:w.heap[b]?=some (.cells vs T (0,0))) (hsz:vs.size=e.size) (hl:cs.length≤vs.size) (hrl:RL w (OA A B) B cs (vs.toList.take cs.length)) (hge:e.g=g) (hoff:off+new.length≤cs.length) (hnew:RL w (OA A B) B new vals) :
  StepOK A w B (w.setRow b (vs.toList.take off++vals++vs.toList.drop (off+vals.length)).toArray) B (aA mem k g (splice cs off new)):=by
 have hlv:vals.length=new.length:=hnew.1
 have hspl:RL w (OA A B) B (splice cs off new) ((vs.toList.take off++vals++vs.toList.drop (off+vals.length)).take cs.length):=by
  have h1:=hrl.splice hnew off
  have e1:(vs.toList.take cs.length).take off++vals++(vs.toList.take cs.length).drop (off+vals.length)=(vs.toList.take off++vals++vs.toList.drop (off+vals.length)).take cs.length:=by
   have hvl:vs.toList.length=vs.size:=Array.length_toList;rw[List.take_take,TN (by omega),TK,TE,Td,TO,hvl,TN (a:=off) (b:=vs.size) (by omega)];rw[TF (l:=vs.toList.take off++vals) (by rw[Td,TO,hvl];omega)]
  rwa [e1] at h1
 have hsl:(splice cs off new).length=cs.length:=by unfold splice;simp;omega
 have heq:fx B k e=B:=by
  funext j
  unfold fx
  split
  ·rename_i hj;rw[hj,he]
  ·rfl
 have f:Fr (fun b=>∃ e,B k=some e∧e.blk=some b) w (w.setRow b (vs.toList.take off++vals++vs.toList.drop (off+vals.length)).toArray):=by
  refine⟨rfl,rfl,rfl,by simp,fun j hj ho=>?_⟩
  exact setRow_other w b j _ (fun hjb=>ho ⟨e,he,by rw[hb,hjb]⟩)
 have:=StepOK.change (k:=k) (e':=e) (cs:=splice cs off new) hmr f (fun e2 he2 => .inl (by rw[he] at he2;exact Option.some.inj he2)) (fun b2 hb2 => .inr ⟨e,he,hb2⟩) (fun hn=>by rw[hb] at hn;cases hn) (fun b2 hb2=>by
  rw[hb] at hb2
  cases hb2;refine⟨_,T,setRow_heap w b vs _ T (0,0) hh,by simp;omega,by rw[hsl];simp;omega,fun i m hm=>?_⟩
  obtain⟨v,hv,hr⟩:=hspl.get hm;rw[Tx] at hv
  split at hv
  ·exact⟨v,by simpa using hv,hr⟩
  ·cases hv)
 rw[heq,hge] at this;exact this
theorem Gg {t:TypeId} {n:Nat} {m1 m2:MV} {u1 u2:Value} {r:MV} {ef:Option (Key × Nat × List MV)} (hmr:MemRel A w B mem) (hs:cN P t=some n) (r1:VR w (OA A B) B m1 u1) (r2:VR w (OA A B) B m2 u2)
  (h:lH mem n m1 m2.cells=some (r,ef)):∃ w',(Instr.storeAt t u1 u2).run P w = .ok () w'∧StepOK A w B w' B (ig mem ef)∧r = .no:=by
 cases m1 with
 | ptr k g off =>
  simp only[lH] at h;unfold tS at h
  split at h
  ·rename_i g' cs hk
   split at h
   ·rename_i hc
    obtain⟨rfl,h1,h2,h3⟩:=hc
    cases h;obtain⟨e,he,hge,hn,hb⟩:=hmr.at_ hk
    cases r1 with
    | ptr he' hg' hp =>
     rw[he] at he'
     cases he'
     obtain⟨b,rfl,hbb⟩:=hp;have hbb:=hbb hge.symm;obtain⟨vs,T,hh,hsz,hl,hrl⟩:=hb b hbb;have hk2:m2 ≠ .undef:=fun e=>by rw[e] at h3;simp [MV.cells,MV.one] at h3
     have hrc:=RL.of_cells r2 hk2
     have h1c:∀ v∈u2.cells.toList,v.oneCell'=true:=by
      intro v hv;obtain⟨i,hi,hvi⟩:=List.getElem_of_mem hv;have hi':i<m2.cells.length:=by rw[←hrc.1];exact hi
      have:=hrc.2 i _ _ (Tu hi') (Tu hi);rw[hvi] at this;exact Ev this (List.all_eq_true.1 h3 _ (TH hi'))
     have hsz2:u2.cells.size=n:=by have:=hrc.1;simp at this;omega
     have hst:=run_storeCells_at P b off T u2.cells.toList 0 vs w hh (by simp;omega) h1c;simp only[TL] at hst;refine⟨_,?_,HP hmr hk he hbb hh hsz hl hrl hge (by omega) hrc,rfl⟩;have hne:¬ (u2.cells.size≠n):=by omega
     simp only[Instr.storeAt,Instr.sureAddr,storeVar,Sem.run_bind,Sem.run_pure,Result.andThen_ok,eE hs];rw[if_neg hne];exact hst
   ·cases h
  ·cases h
 | _=>simp [lH] at h
end
end Go.Mini
