/- A part of the proof. -/
import Derived.Calls
import Derived.Still
import Derived.Below
import Derived.Laws.World
import Derived.Laws.Sem
import Derived.Laws.Entries
import Derived.Laws.Rows
import GoSem.ClaimData
import Derived.Laws.CopyRow
import Derived.Laws.MakeOwn
import Derived.Laws.Append
import Derived.Laws.AppendOwn
import Derived.Laws.Strings
import Derived.Laws.Strings2
import Derived.Laws.StructEq
import Derived.Laws.Slices
import Derived.Laws.Cells
set_option linter.unusedSimpArgs false
set_option linter.unusedVariables false
open List renaming flatten_cons → S8, length_append → S9, replicate → Tf, mapM_cons → Tg, drop_eq_nil_of_le → To, drop_eq_getElem_cons → Tp, getElem?_eq_getElem → Tq, getElem?_map → Tr, getElem?_append → Ts, getElem?_take → Tt, range → Tw, getElem?_eq_none → Tx, take_append → TA, take_of_length_le → TB, getElem_mem → TD, mem_of_mem_take → TE, drop_take → TG, replicate_succ → TI, length_take → TK
open Nat renaming add_mul → Ta, one_mul → Tb, le_refl → Tc, le_trans → Td, lt_of_lt_of_le → Te, lt_or_ge → Tn, add_assoc → Tu, zero_add → Tv, succ_mul → Ty, mul_le_mul_right → Tz, eq_or_lt_of_le → TC, sub_self → TF, add_zero → TH, min_eq_left → TJ
open Option renaming pure_def → Th, bind_eq_bind → Ti, bind_eq_some_iff → Tj, map_eq_some_iff → Tk
open Bool renaming false_eq_true → Tm
namespace Go.Mini
open Go
abbrev Key:=Nat
inductive Data where
 | int (k:IntKind) (n:Int)
 | bool (b:Bool)
 | str (s:List UInt8)
 | sl (es:List (List Data))
 | ptr (cs:List Data)
 | nilp
 | fn (f:FuncId) (caps:List Data)
 | nilf
 | agg (cs:List Data)
 | tup (vs:List Data)
 deriving Inhabited
inductive MV where
 | dat (d:Data)
 | nil
 | ref (k:Key) (g sz off len:Nat)
 | ptr (k:Key) (g off:Nat)
 | clo (f:FuncId) (caps:List MV)
 | agg (cs:List MV)
 | tup (vs:List MV)
 | no
 | undef
 deriving Inhabited
inductive Den (w:World) (O:Nat→Prop):Data→Value→Prop
 | int {k:IntKind} {n:Int}:Den w O (.int k n) (.int k n)
 | bool {b:Bool}:Den w O (.bool b) (.bool b)
 | str {s:List UInt8}:Den w O (.str s) (.string ⟨s.toArray⟩)
 | sl0 {a:Option Addr} {c:Nat}:Den w O (.sl []) (.slice a 0 c)
 | sl {es:List (List Data)} {b off c sz:Nat} (val:Nat→Value) (hl:es.length≤c) (hm:es.length≤maxLen) (hb:b<w.heap.size) (hO:¬ O b) (hsz:∀ e∈es,e.length=sz)
   (hc:∀ i,i<es.length*sz→w.cell? ⟨b,off+i,none⟩=some (val i)) (hd:∀ i d,es.flatten[i]?=some d→Den w O d (val i)) :
   Den w O (.sl es) (.slice (some ⟨b,off,none⟩) es.length c)
 | ptr {cs:List Data} {b off:Nat} (val:Nat→Value) (hb:b<w.heap.size) (hO:¬ O b)
   (hc:∀ i,i<cs.length→w.cell? ⟨b,off+i,none⟩=some (val i)) (hd:∀ i d,cs[i]?=some d→Den w O d (val i)) :
   Den w O (.ptr cs) (.pointer (some ⟨b,off,none⟩))
 | nilp:Den w O .nilp (.pointer none)
 | fn {f:FuncId} {caps:List Data} {vs:List Value} (hl:vs.length=caps.length) (hd:∀ (i:Nat) (d:Data) (v:Value),caps[i]?=some d→vs[i]?=some v→Den w O d v) :
   Den w O (.fn f caps) (.func (.func f) #[] vs.toArray)
 | nilf:Den w O .nilf .nilFunc
 | agg {cs:List Data} {vs:List Value} (hl:vs.length=cs.length) (hd:∀ (i:Nat) (d:Data) (v:Value),cs[i]?=some d→vs[i]?=some v→Den w O d v) :
   Den w O (.agg cs) (.agg vs.toArray)
 | tup {cs:List Data} {vs:List Value} (hl:vs.length=cs.length) (hd:∀ (i:Nat) (d:Data) (v:Value),cs[i]?=some d→vs[i]?=some v→Den w O d v) :
   Den w O (.tup cs) (.tuple vs.toArray)
theorem iW {es:List (List Data)} {sz:Nat} (h:∀ e∈es,e.length=sz):es.flatten.length=es.length*sz:=by
 induction es with
 | nil=>simp
 | cons e r ih =>
  have h1:=h e (by simp);have h2:=ih (fun x hx=>h x (by simp [hx]));rw[S8,S9,h1,h2,List.length_cons,Ta,Tb,Nat.add_comm]
theorem Den.keep {w w':World} {O O':Nat→Prop} (hs:w.heap.size≤w'.heap.size) (h:∀ b,b<w.heap.size→¬ O b→w'.heap[b]?=w.heap[b]?∧¬ O' b) {d:Data} {v:Value} (hd:Den w O d v):Den w' O' d v:=by
 induction hd with
 | int=>exact .int
 | bool=>exact .bool
 | str=>exact .str
 | sl0=>exact .sl0
 | @sl es b off c sz val hl hm hb hO hsz hc hd ih =>
  obtain⟨h1,h2⟩:=h b hb hO;exact .sl val hl hm (by omega) h2 hsz (fun i hi=>(World.cell?_of_block (a:=⟨b,off+i,none⟩) h1).trans (hc i hi)) ih
 | nilp=>exact .nilp
 | nilf=>exact .nilf
 | @ptr cs b off val hb hO hc hd ih =>
  obtain⟨h1,h2⟩:=h b hb hO;exact .ptr val (by omega) h2 (fun i hi=>(World.cell?_of_block (a:=⟨b,off+i,none⟩) h1).trans (hc i hi)) ih
 | fn hl hd ih=>exact .fn hl ih
 | agg hl hd ih=>exact .agg hl ih
 | tup hl hd ih=>exact .tup hl ih
structure Bk where
 g:Nat
 blk:Option Nat
 size:Nat
abbrev Lay:=Key→Option Bk
def Own (B:Lay) (b:Nat):Prop:=∃ k e,B k=some e∧e.blk=some b
def RefOK (e:Bk) (g sz off len:Nat) (v:Value):Prop :=
 ∃ a cap,v = .slice a len cap∧len≤cap∧cap≤maxLen∧(cap=0∨∃ b,a=some ⟨b,off,none⟩∧(g=e.g→e.blk=some b∧off+cap*sz≤e.size))
def PtrOK (e:Bk) (g off:Nat) (v:Value):Prop:=∃ b,v = .pointer (some ⟨b,off,none⟩)∧(g=e.g→e.blk=some b)
theorem RefOK.later {e e':Bk} {g sz off len:Nat} {v:Value} (h:RefOK e g sz off len v) (hl:g<e'.g):RefOK e' g sz off len v:=by
 obtain⟨a,cap,h1,h2,h3,h4⟩:=h;refine⟨a,cap,h1,h2,h3,h4.imp id ?_⟩;rintro⟨b,h5,_⟩;exact⟨b,h5,fun h=>by omega⟩
theorem PtrOK.later {e e':Bk} {g off:Nat} {v:Value} (h:PtrOK e g off v) (hl:g<e'.g):PtrOK e' g off v:=by
 obtain⟨b,h1,_⟩:=h;exact⟨b,h1,fun h=>by omega⟩
inductive VR (w:World) (O:Nat→Prop) (B:Lay):MV→Value→Prop
 | dat {d:Data} {v:Value} (h:Den w O d v):VR w O B (.dat d) v
 | nil {a:Option Addr}:VR w O B .nil (.slice a 0 0)
 | ref {k:Key} {g sz off len:Nat} {e:Bk} {v:Value} (he:B k=some e) (hg:g≤e.g) (hv:RefOK e g sz off len v):VR w O B (.ref k g sz off len) v
 | ptr {k:Key} {g off:Nat} {e:Bk} {v:Value} (he:B k=some e) (hg:g≤e.g) (hv:PtrOK e g off v):VR w O B (.ptr k g off) v
 | clo {f:FuncId} {caps:List MV} {vs:List Value} (hl:vs.length=caps.length) (hd:∀ (i:Nat) (d:MV) (v:Value),caps[i]?=some d→vs[i]?=some v→VR w O B d v) :
   VR w O B (.clo f caps) (.func (.func f) #[] vs.toArray)
 | agg {cs:List MV} {vs:List Value} (hl:vs.length=cs.length) (hd:∀ (i:Nat) (d:MV) (v:Value),cs[i]?=some d→vs[i]?=some v→VR w O B d v) :
   VR w O B (.agg cs) (.agg vs.toArray)
 | tup {cs:List MV} {vs:List Value} (hl:vs.length=cs.length) (hd:∀ (i:Nat) (d:MV) (v:Value),cs[i]?=some d→vs[i]?=some v→VR w O B d v) :
   VR w O B (.tup cs) (.tuple vs.toArray)
 | no:VR w O B .no undef
 | undef {v:Value}:VR w O B .undef v
def OA (A:Nat→Prop) (B:Lay) (b:Nat):Prop:=Own B b∨A b
structure Trans (A:Nat→Prop) (w:World) (B:Lay) (w':World) (B':Lay):Prop where
 size:w.heap.size≤w'.heap.size
 old:∀ b,b<w.heap.size→¬ OA A B b→w'.heap[b]?=w.heap[b]?∧¬ Own B' b
 key:∀ k e,B k=some e→∃ e',B' k=some e'∧(e'=e∨e.g<e'.g)
theorem Trans.refl (A:Nat→Prop) (w:World) (B:Lay):Trans A w B w B :=
 ⟨Tc _,fun _ _ h=>⟨rfl,fun ho=>h (.inl ho)⟩,fun _ e he=>⟨e,he,.inl rfl⟩⟩
theorem Trans.trans {A:Nat→Prop} {w w1 w2:World} {B B1 B2:Lay} (h:Trans A w B w1 B1) (h':Trans A w1 B1 w2 B2):Trans A w B w2 B2:=by
 refine⟨Td h.size h'.size,fun b hb ho=>?_,fun k e he=>?_⟩
 ·obtain⟨h1,h2⟩:=h.old b hb ho
  obtain⟨h3,h4⟩:=h'.old b (Te hb h.size) (fun hx=>hx.elim h2 fun ha=>ho (.inr ha));exact⟨h3.trans h1,h4⟩
 ·obtain⟨e1,he1,hh⟩:=h.key k e he
  obtain⟨e2,he2,hh2⟩:=h'.key k e1 he1;refine⟨e2,he2,?_⟩;rcases hh with rfl | hh<;>rcases hh2 with rfl | hh2
  ·exact .inl rfl
  ·exact .inr hh2
  ·exact .inr hh
  ·exact .inr (Nat.lt_trans hh hh2)
theorem Den.trans {A:Nat→Prop} {w w':World} {B B':Lay} (t:Trans A w B w' B') {d:Data} {v:Value} (h:Den w (OA A B) d v):Den w' (OA A B') d v :=
 h.keep t.size fun b hb ho=>⟨(t.old b hb ho).1,fun hx=>hx.elim (t.old b hb ho).2 fun ha=>ho (.inr ha)⟩
theorem VR.keep {A:Nat→Prop} {w w':World} {B B':Lay} (t:Trans A w B w' B') {m:MV} {v:Value} (h:VR w (OA A B) B m v):VR w' (OA A B') B' m v:=by
 induction h with
 | dat h=>exact .dat (h.trans t)
 | nil=>exact .nil
 | @ref k g sz off len e v he hg hv =>
  obtain⟨e',he',hh⟩:=t.key k e he;rcases hh with rfl | hh
  ·exact .ref he' hg hv
  ·exact .ref he' (by omega) (hv.later (by omega))
 | @ptr k g off e v he hg hv =>
  obtain⟨e',he',hh⟩:=t.key k e he;rcases hh with rfl | hh
  ·exact .ptr he' hg hv
  ·exact .ptr he' (by omega) (hv.later (by omega))
 | clo hl hd ih=>exact .clo hl ih
 | agg hl hd ih=>exact .agg hl ih
 | tup hl hd ih=>exact .tup hl ih
 | no=>exact .no
 | undef=>exact .undef
abbrev Mem:=Key→Option (Nat × List MV)
def emp:Mem:=fun _=>none
def az (m:Mem) (k:Key) (g:Nat) (cs:List MV):Mem:=fun j=>if j=k then some (g,cs) else m j
def aD (m:Mem) (k:Key):Nat:=match m k with
 | none=>0
 | some (g,_)=>g+1
structure MemRel (A:Nat→Prop) (w:World) (B:Lay) (mem:Mem):Prop where
 dom:∀ k,mem k=none→B k=none
 inj:∀ k k' e e' b,B k=some e→B k'=some e'→e.blk=some b→e'.blk=some b→k=k'
 sep:∀ b,A b→¬ Own B b
 lt:∀ b,A b→b<w.heap.size
 blk:∀ k g cs,mem k=some (g,cs)→∃ e,B k=some e∧e.g=g∧(e.blk=none→cs=[]) ∧
  ∀ b,e.blk=some b→∃ vs T,w.heap[b]?=some (.cells vs T (0,0))∧vs.size=e.size∧cs.length≤vs.size ∧
   ∀ (i:Nat) (m:MV),cs[i]?=some m→∃ v,vs[i]?=some v∧VR w (OA A B) B m v
theorem MemRel.own_lt {A:Nat→Prop} {w:World} {B:Lay} {mem:Mem} (h:MemRel A w B mem) {b:Nat} (hb:Own B b):b<w.heap.size:=by
 obtain⟨k,e,he,hb⟩:=hb
 cases hm:mem k with
 | none=>rw[h.dom k hm] at he;cases he
 | some x =>
  obtain⟨g,cs⟩:=x;obtain⟨e',he',_,_,hh⟩:=h.blk k g cs hm;rw[he'] at he
  cases he;obtain⟨vs,T,hv,_⟩:=hh b hb;exact (Array.getElem?_eq_some_iff.1 hv).1
structure Fr (O0:Nat→Prop) (w0 w:World):Prop where
 os:w.os=w0.os
 tape:w.tape=w0.tape
 output:w.output=w0.output
 size:w0.heap.size≤w.heap.size
 block:∀ g,g<w0.heap.size→¬ O0 g→w.heap[g]?=w0.heap[g]?
theorem Fr.refl (O0:Nat→Prop) (w:World):Fr O0 w w:=⟨rfl,rfl,rfl,Tc _,fun _ _ _=>rfl⟩
theorem Fr.drew {O0:Nat→Prop} {w0 w:World} (h:Fr O0 w0 w) (n:Nat):Fr O0 w0 { w with drawn:=n }:=⟨h.os,h.tape,h.output,h.size,h.block⟩
theorem Fr.alloc {O0:Nat→Prop} {w0 w:World} (h:Fr O0 w0 w) (o:Obj):Fr O0 w0 (w.alloc o) :=
 ⟨h.os,h.tape,h.output,by simp;have:=h.size;omega,fun g hg hO=>(RowKit.Below.heap_alloc w o g (by have:=h.size;omega)).trans (h.block g hg hO)⟩
theorem Fr.below {w0 w:World} (h:Fr (fun _=>False) w0 w):RowKit.Below w0.heap.size w0 w:=⟨h.os,h.tape,h.output,h.size,fun g hg=>h.block g hg id⟩
inductive Opd where
 | t (s:Nat)
 | c (m:MV)
 deriving Inhabited
inductive MOp where
 | mv (x:Opd)
 | pick (c a b:Opd)
 | alloc (k:Key) (z:List MV)
 | box (k:Key) (x:Opd)
 | build (z:List MV) (parts:List (Nat × Nat × Opd))
 | bsl (k:Key) (own:Bool) (z:List MV) (sz len:Nat) (parts:List (Nat × Nat × Opd))
 | load (n:Nat) (ag:Bool) (x:Opd)
 | store (n:Nat) (x v:Opd)
 | bin (op:BinOp) (x y:Opd)
 | beq (neg:Bool) (x y:Opd)
 | eqs (neg:Bool) (ks:List Nat) (x y:Opd)
 | isnil (neg:Bool) (x:Opd)
 | un (op:UnOp) (x:Opd)
 | conv (k:IntKind) (x:Opd)
 | nchk (x:Opd)
 | mksl (k:Key) (z:List MV) (bytes:Nat) (len cap:Opd)
 | fad (off:Nat) (x:Opd)
 | fld (off n:Nat) (ag:Bool) (x:Opd)
 | iad (sz:Nat) (x i:Opd)
 | iada (len sz:Nat) (x i:Opd)
 | idxs (x i:Opd)
 | slc (sz:Nat) (x:Opd) (lo hi mx:Option Opd)
 | slca (len sz:Nat) (x:Opd) (lo hi mx:Option Opd)
 | slcs (x:Opd) (lo hi:Option Opd)
 | ext (i:Nat) (x:Opd)
 | len (x:Opd)
 | lens (x:Opd)
 | app (k:Key) (z:List MV) (bytes:Nat) (s x:Opd)
 | cpy (sz:Nat) (d x:Opd)
 | mm (mx:Bool) (x y:Opd)
 | call (f:FuncId) (args:List Opd)
 | callo (k:Key) (sz:Nat) (f:FuncId) (args:List Opd)
 | callv (f:Opd) (args:List Opd)
 | callm (lo:Nat) (f:FuncId) (args:List Opd)
 | mkfn (f:FuncId) (caps:List Opd)
 | bad
 deriving Inhabited
structure MI where
 dst:Option Nat
 g:Option (Nat × Bool)
 op:MOp
 deriving Inhabited
inductive Ghost where
 | adopt (s:Nat) (k:Key) (sz:Nat)
 | adoptC (x:Opd) (i:Nat) (k:Key) (sz:Nat)
 | freeze (s:Nat)
 | freezeC (x:Opd) (i:Nat)
 | move
 | many
 deriving Inhabited
inductive MCode where
 | skip
 | ops (l:List MI)
 | opsD (l:List MI) (c:List (List Nat))
 | seq (a b:MCode)
 | cond (c:Opd) (a b:MCode)
 | block (id:Nat) (c:MCode)
 | loop (c:MCode)
 | exit (id:Nat)
 | ret
 | ghost (g:Ghost) (c:MCode)
 deriving Inhabited
inductive nq where
 | t (s:Nat)
 | cell (s n:Nat) (ag:Bool)
 deriving Inhabited
structure MFunc where
 n:Nat
 np:Nat
 res:List nq
 body:MCode
 deriving Inhabited
structure St where
 tm:Nat→MV
 mem:Mem
def upd (tm:Nat→MV) (s:Nat) (m:MV):Nat→MV:=fun t=>if t=s then m else tm t
def put (tm:Nat→MV):Option Nat→MV→Nat→MV
 | some s,m=>upd tm s m
 | none,_=>tm
@[simp] theorem aL (tm:Nat→MV) (s:Nat) (m:MV) (t:Nat):upd tm s m t=if t=s then m else tm t:=rfl
def ev (tm:Nat→MV):Opd→MV
 | .t s=>tm s
 | .c m=>m
def MV.cells:MV→List MV
 | .agg cs=>cs
 | .dat (.agg ds)=>ds.map .dat
 | m=>[m]
def MV.known:MV→Bool
 | .undef=>false
 | _=>true
def MV.one:MV→Bool
 | .dat (.agg _)=>false
 | .dat (.tup _)=>false
 | .dat _=>true
 | .nil=>true
 | .ref ..=>true
 | .ptr ..=>true
 | .clo ..=>true
 | _=>false
def kJ (ag:Bool) (cs:List MV):Option MV :=
 if ag=true then some (.agg cs) else match cs with
  | [m]=>some m
  | _=>none
def cut (cs:List MV) (off n:Nat):Option (List MV) :=
 if off+n≤cs.length then some ((cs.drop off).take n) else none
def splice (cs:List MV) (off:Nat) (new:List MV):List MV:=cs.take off++new++cs.drop (off+new.length)
def fv (ev:Opd→MV) (cells:List MV):List (Nat × Nat × Opd)→Option (List MV)
 | []=>some cells
 | (off,size,x)::rest =>
  if (ev x).known=true∧(ev x).cells.length=size∧off+size≤cells.length then fv ev (splice cells off (ev x).cells) rest else none
def uv:MV→Option Data
 | .dat d=>some d
 | .nil=>some (.sl [])
 | _=>none
def chunk (sz:Nat):Nat→List Data→List (List Data)
 | 0,_=>[]
 | n+1,l=>l.take sz::chunk sz n (l.drop sz)
def Mf (op:BinOp) (k:IntKind) (a b:Int):Option Data :=
 match op with
 | .add=>some (.int k (k.wrap (a+b)))
 | .sub=>some (.int k (k.wrap (a-b)))
 | .mul=>some (.int k (k.wrap (a*b)))
 | .quo=>if b=0 then none else some (.int k (k.wrap (a.tdiv b)))
 | .rem=>if b=0 then none else some (.int k (a.tmod b))
 | .and=>some (.int k (bits .and k a b))
 | .or=>some (.int k (bits .or k a b))
 | .xor=>some (.int k (bits .xor k a b))
 | .andNot=>some (.int k (bits .andNot k a b))
 | .eql=>some (.bool (a==b))
 | .neq=>some (.bool (a != b))
 | .lss=>some (.bool (a<b))
 | .leq=>some (.bool (a≤b))
 | .gtr=>some (.bool (a>b))
 | .geq=>some (.bool (a≥b))
 | _=>none
def shI (op:BinOp) (k:IntKind) (a b:Int):Option Data :=
 if b<0 then none else match op with
 | .shl=>some (.int k (k.wrap (a*2^(min b.toNat k.bits))))
 | .shr=>some (.int k (a.fdiv (2^(min b.toNat k.bits))))
 | _=>none
def Ma (op:BinOp) (a b:List UInt8):Option Data :=
 match op with
 | .add=>if a.length+b.length≤maxLen then some (.str (a++b)) else none
 | .eql=>some (.bool (a==b))
 | .neq=>some (.bool (!(a==b)))
 | .lss=>some (.bool (Op.bytesLess a b))
 | .leq=>some (.bool (Op.bytesLess a b||a==b))
 | .gtr=>some (.bool (!(Op.bytesLess a b||a==b)))
 | .geq=>some (.bool (!Op.bytesLess a b))
 | _=>none
def oD:BinOp→Bool
 | .shl=>true
 | .shr=>true
 | _=>false
def JF (op:BinOp) (x y:MV):Option MV :=
 match x,y with
 | .dat (.int k a),.dat (.int k' b)=>if oD op=true then (shI op k a b).map .dat else if k=k' then (Mf op k a b).map .dat else none
 | .dat (.str a),.dat (.str b)=>(Ma op a b).map .dat
 | _,_=>none
def Kf (neg:Bool):MV→MV→Option MV
 | .dat (.bool a),.dat (.bool b)=>some (.dat (.bool (neg != (a==b))))
 | _,_=>none
def w6:Nat→MV→MV→Option Bool
 | 0,.dat (.bool a),.dat (.bool b)=>some (a==b)
 | 1,.dat (.int k a),.dat (.int k' b)=>if k=k' then some (a==b) else none
 | 2,.dat (.str a),.dat (.str b)=>some (a==b)
 | _,_,_=>none
def lk:List Nat→List MV→List MV→Option Bool
 | [],[],[]=>some true
 | k::ks,a::x,b::y=>match w6 k a b,lk ks x y with
  | some c,some d=>some (c&&d)
  | _,_=>none
 | _,_,_=>none
def unM (op:UnOp) (x:MV):Option MV :=
 match op,x with
 | .neg,.dat (.int k n)=>some (.dat (.int k (k.wrap (0-n))))
 | .xor,.dat (.int k n)=>some (.dat (.int k (bits .xor k (if k.signed then -1 else k.max) n)))
 | .not,.dat (.bool b)=>some (.dat (.bool !b))
 | _,_=>none
def idx:MV→Option Nat
 | .dat (.int _ n)=>if 0≤n then some n.toNat else none
 | _=>none
def iL (d:Nat):Option MV→Option Nat
 | none=>some d
 | some x=>idx x
def oL:MV→Option Nat
 | .dat (.sl es)=>some es.length
 | .nil=>some 0
 | .ref _ _ _ _ n=>some n
 | _=>none
def jT (mem:Mem) (n:Nat) (ag:Bool):MV→Option MV
 | .ptr k g off=>match mem k with
  | some (g',cs)=>if g'=g then (cut cs off n).bind (kJ ag) else none
  | none=>none
 | .dat (.ptr ds)=>(cut (ds.map .dat) 0 n).bind (kJ ag)
 | _=>none
def rc:MV→Option Nat
 | .dat (.str s)=>some s.length
 | _=>none
def wN:MV→MV→MV→Option MV
 | .dat (.bool t),a,b=>some (if t=true then a else b)
 | _,_,_=>none
def HP (z:List MV) (sz len:Nat) (x:Option (List MV)):Option MV :=
 if z.length=len*sz then (match x with
  | some cs=>(cs.mapM uv).map fun ds => .dat (.sl (chunk sz len ds))
  | none=>none) else none
def Ip:MV→Option (List MV)
 | .agg cs=>some cs
 | .dat (.agg ds)=>some (ds.map .dat)
 | _=>none
def Im (neg:Bool) (ks:List Nat) (a b:MV):Option MV:=match Ip a,Ip b with
 | some x,some y=>(match lk ks x y with
  | some c=>some (.dat (.bool (neg != c)))
  | none=>none)
 | _,_=>none
def Bd (k:IntKind):MV→Option MV
 | .dat (.int _ n)=>some (.dat (.int k (k.wrap n)))
 | _=>none
def Bc:MV→Option MV
 | .ptr k g off=>some (.ptr k g off)
 | .dat (.ptr ds)=>some (.dat (.ptr ds))
 | _=>none
def HI (off:Nat):MV→Option MV
 | .ptr k g o=>some (.ptr k g (o+off))
 | .dat (.ptr ds)=>if off≤ds.length then some (.dat (.ptr (ds.drop off))) else none
 | _=>none
def Kj (off n:Nat) (ag:Bool):MV→Option MV
 | .agg cs=>(cut cs off n).bind (kJ ag)
 | .dat (.agg ds)=>(cut (ds.map .dat) off n).bind (kJ ag)
 | _=>none
def yj (sz n:Nat):MV→Option MV
 | .ref k g sz' off len=>if n<len∧sz'=sz then some (.ptr k g (off+n*sz)) else none
 | .dat (.sl es)=>match es[n]? with
  | some e=>if e.length=sz then some (.dat (.ptr e)) else none
  | none=>none
 | _=>none
def zz (len sz n:Nat):MV→Option MV
 | .ptr k g off=>if n<len then some (.ptr k g (off+n*sz)) else none
 | .dat (.ptr ds)=>if n<len∧n*sz≤ds.length then some (.dat (.ptr (ds.drop (n*sz)))) else none
 | _=>none
def AQ (n:Nat):MV→Option MV
 | .dat (.str s)=>(s[n]?).map fun b => .dat (.int .u8 b.toNat)
 | _=>none
def qj (sz:Nat) (es:List (List Data)):Bool:=es.all fun e=>e.length==sz
def KJ (sz l h:Nat):MV→Option MV
 | .dat (.sl es)=>if l≤h∧h≤es.length∧qj sz es=true then some (.dat (.sl ((es.take h).drop l))) else none
 | .nil=>if l=0∧h=0 then some .nil else none
 | .ref k g sz' off len=>if sz'=sz∧l≤h∧h≤len then some (.ref k g sz (off+l*sz) (h-l)) else none
 | _=>none
def Aw (sz l h m:Nat):MV→Option MV
 | .dat (.sl es)=>if l≤h∧h≤m∧m≤es.length∧qj sz es=true then (if m=l then some .nil else some (.dat (.sl ((es.take h).drop l)))) else none
 | .nil=>if l=0∧h=0∧m=0 then some .nil else none
 | .ref _ _ _ _ len=>if l≤h∧h≤m∧m≤len∧m=l then some .nil else none
 | _=>none
def AX (l h:Nat):MV→Option MV
 | .dat (.str s)=>if l≤h∧h≤s.length then some (.dat (.str ((s.take h).drop l))) else none
 | _=>none
def H2 (i:Nat):MV→Option MV
 | .tup vs=>vs[i]?
 | .dat (.tup ds)=>(ds[i]?).map .dat
 | _=>none
def mmM (mx:Bool):MV→MV→Option MV
 | .dat (.int k a),.dat (.int k' b)=>if k=k' then some (.dat (.int k (if mx=true then (if b>a then b else a) else (if b<a then b else a)))) else none
 | _,_=>none
def dF (x:Option Nat) (f:Nat→Option MV):Option MV:=match x with
 | some n=>f n
 | none=>none
def qop (tm:Nat→MV):MOp→Option MV
 | .mv x=>some (ev tm x)
 | .pick c a b=>wN (ev tm c) (ev tm a) (ev tm b)
 | .build z parts=>(fv (ev tm) z parts).map .agg
 | .bsl _ false z sz len parts=>HP z sz len (fv (ev tm) z parts)
 | .bin op x y=>JF op (ev tm x) (ev tm y)
 | .beq neg x y=>Kf neg (ev tm x) (ev tm y)
 | .eqs neg ks x y=>Im neg ks (ev tm x) (ev tm y)
 | .un op x=>unM op (ev tm x)
 | .conv k x=>Bd k (ev tm x)
 | .nchk x=>Bc (ev tm x)
 | .fad off x=>HI off (ev tm x)
 | .fld off n ag x=>Kj off n ag (ev tm x)
 | .iad sz x i=>dF (idx (ev tm i)) fun n=>yj sz n (ev tm x)
 | .iada len sz x i=>dF (idx (ev tm i)) fun n=>zz len sz n (ev tm x)
 | .idxs x i=>dF (idx (ev tm i)) fun n=>AQ n (ev tm x)
 | .slc sz x lo hi none=>dF (iL 0 (lo.map (ev tm))) fun l=>dF (oL (ev tm x)) fun len=>dF (iL len (hi.map (ev tm))) fun h=>KJ sz l h (ev tm x)
 | .slc sz x lo (some hi) (some mx)=>dF (iL 0 (lo.map (ev tm))) fun l=>dF (idx (ev tm hi)) fun h=>dF (idx (ev tm mx)) fun m=>Aw sz l h m (ev tm x)
 | .slcs x lo hi=>dF (iL 0 (lo.map (ev tm))) fun l=>dF (rc (ev tm x)) fun len=>dF (iL len (hi.map (ev tm))) fun h=>AX l h (ev tm x)
 | .ext i x=>H2 i (ev tm x)
 | .len x=>dF (oL (ev tm x)) fun n=>some (.dat (.int .i64 n))
 | .lens x=>dF (rc (ev tm x)) fun n=>some (.dat (.int .i64 n))
 | .mm mx x y=>mmM mx (ev tm x) (ev tm y)
 | .mkfn f caps=>some (.clo f (caps.map (ev tm)))
 | _=>none
def JP (k:Key) (g off len sz l h:Nat):Option (Nat × List MV)→Option MV
 | some (g',cs)=>if g'=g∧l≤h∧h≤len∧off+len*sz≤cs.length then some (.ref k g sz (off+l*sz) (h-l)) else none
 | none=>none
def sh (mem:Mem) (len sz l h:Nat):MV→Option MV
 | .ptr k g off=>JP k g off len sz l h (mem k)
 | _=>none
def oK (mem:Mem) (sz:Nat):MV→Option (Nat × List MV)
 | .dat (.sl es)=>if qj sz es=true then some (es.length,es.flatten.map MV.dat) else none
 | .nil=>some (0,[])
 | .ref k g sz' off len=>if sz'=sz then (match mem k with
  | some (g',cs)=>if g'=g then (cut cs off (len*sz)).map fun cs=>(len,cs) else none
  | none=>none) else none
 | _=>none
abbrev Out:=Option (MV × Option (Key × Nat × List MV))
def iq (x:Option MV):Out:=match x with
 | some m=>some (m,none)
 | none=>none
def wO (k:Key) (g:Nat) (z:List MV) (sz len:Nat) (x:Option (List MV)):Out :=
 if z.length=len*sz then (match x with
  | some cs=>some (.ref k g sz 0 len,some (k,g,cs))
  | none=>none) else none
def wz (k:Key) (g:Nat) (z:List MV) (bytes:Nat) (n c:Nat):Out :=
 if n=c∧bytes*n≤140737488355328∧n≤maxLen then some (.ref k g z.length 0 n,some (k,g,(Tf n z).flatten)) else none
def Aa (x y:Option Nat) (f:Nat→Nat→Out):Out:=match x,y with
 | some n,some m=>f n m
 | _,_=>none
def uY (n:Nat) (k:Key) (g off:Nat) (v:List MV) (x:Option (Nat × List MV)):Out:=match x with
 | some (g',cs)=>if g'=g∧v.length=n∧off+n≤cs.length∧v.all MV.one=true then some (.no,some (k,g,splice cs off v)) else none
 | none=>none
def lM (mem:Mem) (n:Nat):MV→List MV→Out
 | .ptr k g off,v=>uY n k g off v (mem k)
 | _,_=>none
def kY (k:Key) (g:Nat) (sz len bytes:Nat) (m:Nat) (new:List MV) (x:Option (Nat × List MV)):Out:=match x with
 | some (g',cs)=>if g'=g∧len*sz≤cs.length∧(len+m)*bytes≤140737488355328∧len+m≤maxLen∧new.all MV.one=true
   then some (.ref k (g+1) sz 0 (len+m),some (k,g+1,cs.take (len*sz)++new)) else none
 | none=>none
def oW (mem:Mem) (k:Key) (z:List MV) (bytes:Nat):MV→Option (Nat × List MV)→Out
 | .nil,some (m,new)=>if m*bytes≤140737488355328∧m≤maxLen∧new.all MV.one=true then some (.ref k (aD mem k) z.length 0 m,some (k,aD mem k,new)) else none
 | .ref k' g sz' off len,some (m,new)=>if sz'=z.length∧off=0 then kY k' g sz' len bytes m new (mem k') else none
 | _,_=>none
def zW (k:Key) (g sz off len:Nat) (m:Nat) (new:List MV) (x:Option (Nat × List MV)):Out:=match x with
 | some (g',cs)=>if g'=g∧off+len*sz≤cs.length∧new.all MV.one=true then some (.dat (.int .i64 ((min m len:Nat):Int)),some (k,g,splice cs off (new.take (min m len*sz)))) else none
 | none=>none
def vj (mem:Mem) (sz:Nat):MV→Option (Nat × List MV)→Out
 | .ref k g sz' off len,some (m,new)=>if sz'=sz then zW k g sz off len m new (mem k) else none
 | _,_=>none
def sop (mem:Mem) (tm:Nat→MV):MOp→Out
 | .alloc k z=>some (.ptr k (aD mem k) 0,some (k,aD mem k,z))
 | .box k x=>if (ev tm x).known=true then some (.ptr k (aD mem k) 0,some (k,aD mem k,(ev tm x).cells)) else none
 | .bsl k true z sz len parts=>wO k (aD mem k) z sz len (fv (ev tm) z parts)
 | .mksl k z bytes len cap=>Aa (idx (ev tm len)) (idx (ev tm cap)) (wz k (aD mem k) z bytes)
 | .load n ag x=>iq (jT mem n ag (ev tm x))
 | .slca len sz x lo hi none=>iq (dF (iL 0 (lo.map (ev tm))) fun l=>dF (iL len (hi.map (ev tm))) fun h=>sh mem len sz l h (ev tm x))
 | .store n x v=>lM mem n (ev tm x) (ev tm v).cells
 | .app k z bytes s x=>oW mem k z bytes (ev tm s) (oK mem z.length (ev tm x))
 | .cpy sz d x=>vj mem sz (ev tm d) (oK mem sz (ev tm x))
 | op=>iq (qop tm op)
inductive Eff where
 | same (r:Data)
 | own (sz:Nat) (es:List (List Data))
 | rel (R:MV→Mem→Prop)
 | upd (r:Data) (k:Key) (g i:Nat) (c:MV)
abbrev Tab:=FuncId→List MV→Mem→Option Eff
def ib (mem:Mem):Option (Key × Nat × List MV)→Mem
 | none=>mem
 | some (k,g,cs)=>az mem k g cs
def fI (mem:Mem) (k:Key):List MV:=match mem k with
 | some (_,cs)=>cs
 | none=>[]
def nn (T:Tab) (K:St→Prop) (st:St) (dst:Option Nat) (f:FuncId) (args:List MV):Prop :=
 match T f args st.mem with
 | some (.same r)=>K ⟨put st.tm dst (.dat r),st.mem⟩
 | some (.own _ es)=>K ⟨put st.tm dst (.dat (.sl es)),st.mem⟩
 | some (.rel R)=>∀ r mem',R r mem'→K ⟨put st.tm dst r,mem'⟩
 | some (.upd r k g i c)=>K ⟨put st.tm dst (.dat r),az st.mem k g ((fI st.mem k).set i c)⟩
 | none=>False
def uz:MV→Option Bool
 | .dat (.sl es)=>some (!es.isEmpty)
 | .nil=>some false
 | .ref _ _ _ _ len=>some (decide (0<len))
 | _=>none
def cR (T:Tab) (K:St→Prop) (i:MI) (st:St):Prop :=
 match i.op with
 | .call f args=>nn T K st i.dst f (args.map (ev st.tm))
 | .callo k sz f args=>match T f (args.map (ev st.tm)) st.mem with
  | some (.own sz' es)=>if sz'=sz then K ⟨put st.tm i.dst (.ref k (aD st.mem k) sz 0 es.length),az st.mem k (aD st.mem k) (es.flatten.map .dat)⟩ else False
  | _=>False
 | .callv f args=>match ev st.tm f with
  | .clo g caps=>nn T K st i.dst g (args.map (ev st.tm)++caps)
  | .dat (.fn g ds)=>nn T K st i.dst g (args.map (ev st.tm)++ds.map .dat)
  | _=>False
 | .isnil neg x=>match uz (ev st.tm x) with
  | some full=>∀ b:Bool,(full=true→b=false)→K ⟨put st.tm i.dst (.dat (.bool (neg != b))),st.mem⟩
  | none=>False
 | op=>match sop st.mem st.tm op with
  | some (m,e)=>K ⟨put st.tm i.dst m,ib st.mem e⟩
  | none=>False
def fV (tm:Nat→MV):Option (Nat × Bool)→Option Bool
 | none=>some true
 | some (s,b)=>match tm s with
  | .dat (.bool t)=>some (t==b)
  | .no=>some false
  | _=>none
def wpr (T:Tab) (K:St→Prop):List MI→St→Prop
 | [],st=>K st
 | i::r,st=>match fV st.tm i.g with
  | none=>False
  | some g=>if g=true then cR T (wpr T K r) i st else wpr T K r ⟨put st.tm i.dst .no,st.mem⟩
def eZ:MV→List Key
 | .ref k ..=>[k]
 | .ptr k ..=>[k]
 | _=>[]
inductive FK where
 | wh (k:Key)
 | rd (k:Key) (a b:Nat)
 | wr (k:Key) (i:Nat)
def FK.key:FK→Key
 | .wh k=>k
 | .rd k _ _=>k
 | .wr k _=>k
def iv:FK→FK→Bool
 | .wh k,.wh k' => !(k==k')
 | .wh k,.rd k' _ _ => !(k==k')
 | .rd k _ _,.wh k' => !(k==k')
 | .rd _ _ _,.rd _ _ _=>true
 | .rd k a b,.wr k' i => !(k==k')||(decide (i<a)||decide (b≤i))
 | .wr k' i,.rd k a b => !(k==k')||(decide (i<a)||decide (b≤i))
 | .wr _ _,.wr _ _=>false
 | .wh _,.wr _ _=>false
 | .wr _ _,.wh _=>false
def we (n:Nat):MV→List FK
 | .ref k ..=>[.wh k]
 | .ptr k _ off=>[.rd k off (off+n)]
 | _=>[]
def AG (lo:Nat):List MV→List FK
 | .ptr k _ off::_=>[.wr k (off+lo)]
 | _=>[]
def foot (tm:Nat→MV):MOp→List FK
 | .load n _ x=>we n (ev tm x)
 | .slca _ _ x _ _ _=>(eZ (ev tm x)).map .wh
 | .store _ x _=>(eZ (ev tm x)).map .wh
 | .alloc k _=>[.wh k]
 | .box k _=>[.wh k]
 | .bsl k true _ _ _ _=>[.wh k]
 | .mksl k _ _ _ _=>[.wh k]
 | .callo k _ _ _=>[.wh k]
 | .app k _ _ s x => .wh k::((eZ (ev tm s)).map .wh++(eZ (ev tm x)).map .wh)
 | .cpy _ d x=>(eZ (ev tm d)).map .wh++(eZ (ev tm x)).map .wh
 | .callm lo _ args=>AG lo (args.map (ev tm))
 | _=>[]
def wrs:MOp→Bool
 | .store ..=>true
 | .alloc ..=>true
 | .box ..=>true
 | .bsl _ true _ _ _ _=>true
 | .mksl ..=>true
 | .callo ..=>true
 | .app ..=>true
 | .cpy ..=>true
 | .callm ..=>true
 | _=>false
def shut:MV→MV
 | .dat d => .dat d
 | .nil => .nil
 | .clo f [] => .clo f []
 | .agg cs=>match cs.mapM uv with
  | some ds => .dat (.agg ds)
  | none => .undef
 | _ => .undef
def Fp (lo:Nat) (mem:Mem):List MV→Option Eff→Option (MV × Option (Key × Nat × List MV))
 | .ptr k _ off::_,some (.upd r k' g' i c)=>match mem k with
  | some (g,cs)=>if k'=k∧g'=g∧i=off+lo then some (.dat r,some (k,g,cs.set i c)) else none
  | none=>none
 | _,_=>none
def iH (T:Tab) (mem:Mem) (tm:Nat→MV):MOp→Option (MV × Option (Key × Nat × List MV))
 | .call f args=>match T f (args.map fun x=>shut (ev tm x)) emp with
  | some (.same r)=>some (.dat r,none)
  | some (.own _ es)=>some (.dat (.sl es),none)
  | _=>none
 | .callo k sz f args=>match T f (args.map fun x=>shut (ev tm x)) emp with
  | some (.own sz' es)=>if sz'=sz then some (.ref k (aD mem k) sz 0 es.length,some (k,aD mem k,es.flatten.map .dat)) else none
  | _=>none
 | .callv ..=>none
 | .isnil ..=>none
 | .callm lo f args=>Fp lo mem (args.map (ev tm)) (T f (args.map (ev tm)) mem)
 | op=>sop mem tm op
abbrev Rec:=Nat→Option (Bool × List FK)
def iw (a b:Bool × List FK):Bool:=!(a.1||b.1)||a.2.all fun x=>b.2.all fun y=>iv x y
def Hh (rec:Rec) (p:Bool × List FK) (c:List Nat):Bool:=c.all fun i=>match rec i with
 | none=>true
 | some q=>iw q p
def sK (rec:Rec) (n:Nat) (p:Bool × List FK):Rec:=fun i=>if i=n then some p else rec i
def uM (T:Tab) (K:St→Prop):Nat→List MI→List (List Nat)→Rec→St→Prop
 | _,[],_,_,st=>K st
 | n,i::r,cs,rec,st=>match fV st.tm i.g with
  | none=>False
  | some g=>if g=true then (match iH T st.mem st.tm i.op with
    | some (m,e)=>Hh rec (wrs i.op,foot st.tm i.op) (cs.headD [])=true∧uM T K (n+1) r cs.tail (sK rec n (wrs i.op,foot st.tm i.op)) ⟨put st.tm i.dst m,ib st.mem e⟩
    | none=>False) else uM T K (n+1) r cs.tail rec ⟨put st.tm i.dst .no,st.mem⟩
inductive bH where
 | normal
 | exit (id:Nat)
 | ret
def toD:Nat→Mem→MV→Option Data
 | _,_,.dat d=>some d
 | _,_,.nil=>some (.sl [])
 | 0,_,_=>none
 | n+1,mem,.ref k g sz off len=>match mem k with
  | some (g',cs)=>if g'=g then (match cut cs off (len*sz) with
   | some part=>(part.mapM (toD n mem)).map fun ds => .sl (chunk sz len ds)
   | none=>none) else none
  | none=>none
 | n+1,mem,.ptr k g off=>match mem k with
  | some (g',cs)=>if g'=g∧off≤cs.length then ((cs.drop off).mapM (toD n mem)).map .ptr else none
  | none=>none
 | n+1,mem,.clo f cs=>(cs.mapM (toD n mem)).map (.fn f)
 | n+1,mem,.agg cs=>(cs.mapM (toD n mem)).map .agg
 | n+1,mem,.tup cs=>(cs.mapM (toD n mem)).map .tup
 | _,_,.no=>none
 | _,_,.undef=>none
def kill (mem:Mem) (k:Key):Mem:=az mem k (aD mem k) []
def lF (cs:List MV):Bool:=cs.all fun m=>(uv m).isSome
inductive MoveS (mem:Mem):Mem→Prop
 | mref (kx gx:Nat) (cx:List MV) (i k g sz off len:Nat) (cs:List MV) (k':Nat) (h1:mem kx=some (gx,cx)) (h2:cx[i]?=some (.ref k g sz off len)) (h3:mem k=some (g,cs)) (h4:k≠kx) (h5:k'≠k) (h6:k'≠kx) :
   MoveS mem (az (az (az mem k (aD mem k) []) k' (aD mem k') cs) kx gx (cx.set i (.ref k' (aD mem k') sz off len)))
 | mptr (kx gx:Nat) (cx:List MV) (i k g off:Nat) (cs:List MV) (k':Nat) (h1:mem kx=some (gx,cx)) (h2:cx[i]?=some (.ptr k g off)) (h3:mem k=some (g,cs)) (h4:k≠kx) (h5:k'≠k) (h6:k'≠kx) :
   MoveS mem (az (az (az mem k (aD mem k) []) k' (aD mem k') cs) kx gx (cx.set i (.ptr k' (aD mem k') off)))
 | mfrz (kx gx:Nat) (cx:List MV) (i k g sz off len:Nat) (cs:List MV) (d:Data) (h1:mem kx=some (gx,cx)) (h2:cx[i]?=some (.ref k g sz off len)) (h3:mem k=some (g,cs)) (h4:k≠kx) (h5:toD 1 mem (.ref k g sz off len)=some d) :
   MoveS mem (az (kill mem k) kx gx (cx.set i (.dat d)))
inductive Moves:Mem→Mem→Prop
 | refl (mem:Mem):Moves mem mem
 | step {mem mem1 mem2:Mem} (h:MoveS mem mem1) (h':Moves mem1 mem2):Moves mem mem2
def dN (K:St→Prop) (st:St):Ghost→Prop
 | .adopt s k sz=>match st.tm s with
  | .nil=>K ⟨upd st.tm s (.ref k (aD st.mem k) sz 0 0),az st.mem k (aD st.mem k) []⟩
  | _=>False
 | .adoptC x i k sz=>match ev st.tm x with
  | .ptr kc g off=>match st.mem kc with
   | some (g',cs)=>if g'=g then (match cs[off+i]? with
    | some .nil=>if k≠kc then K ⟨st.tm,az (az st.mem k (aD st.mem k) []) kc g (cs.set (off+i) (.ref k (aD st.mem k) sz 0 0))⟩ else False
    | _=>False) else False
   | none=>False
  | _=>False
 | .freeze s=>match st.tm s with
  | .ref k g _ _ _=>match st.mem k with
   | some (g',cs)=>if g'=g∧lF cs=true then (match toD 1 st.mem (st.tm s) with
    | some d=>K ⟨upd st.tm s (.dat d),kill st.mem k⟩
    | none=>False) else False
   | none=>False
  | _=>False
 | .freezeC x i=>match ev st.tm x with
  | .ptr kc gc off=>match st.mem kc with
   | some (gc',cc)=>if gc'=gc then (match cc[off+i]? with
    | some (.ref k g sz o len)=>match st.mem k with
     | some (g',cs)=>if g'=g∧lF cs=true∧k≠kc then (match toD 1 st.mem (.ref k g sz o len) with
      | some d=>K ⟨st.tm,az (kill st.mem k) kc gc (cc.set (off+i) (.dat d))⟩
      | none=>False) else False
     | none=>False
    | _=>False) else False
   | none=>False
  | _=>False
 | .move=>K st∨(∃ kx gx cx i k g sz off len cs k',st.mem kx=some (gx,cx)∧cx[i]?=some (.ref k g sz off len)∧st.mem k=some (g,cs)∧k≠kx∧k'≠k∧k'≠kx ∧
   K ⟨st.tm,az (az (az st.mem k (aD st.mem k) []) k' (aD st.mem k') cs) kx gx (cx.set i (.ref k' (aD st.mem k') sz off len))⟩) ∨
   ∃ kx gx cx i k g sz off len cs d,st.mem kx=some (gx,cx)∧cx[i]?=some (.ref k g sz off len)∧st.mem k=some (g,cs)∧lF cs=true∧k≠kx∧toD 1 st.mem (.ref k g sz off len)=some d ∧
   K ⟨st.tm,az (kill st.mem k) kx gx (cx.set i (.dat d))⟩
 | .many=>∃ mem',Moves st.mem mem'∧K ⟨st.tm,mem'⟩
def wp (T:Tab):MCode→(bH→St→Prop)→St→Prop
 | .skip,K,st=>K .normal st
 | .ops l,K,st=>wpr T (K .normal) l st
 | .opsD l c,K,st=>uM T (K .normal) 0 l c (fun _=>none) st
 | .seq a b,K,st=>wp T a (fun e st'=>match e with
  | .normal=>wp T b K st'
  | e=>K e st') st
 | .cond c a b,K,st=>match ev st.tm c with
  | .dat (.bool t)=>if t=true then wp T a K st else wp T b K st
  | _=>False
 | .block id c,K,st=>wp T c (fun e st'=>match e with
  | .exit j=>if j=id then K .normal st' else K (.exit j) st'
  | e=>K e st') st
 | .loop c,K,st=>∃ (I:St→Prop) (μ:St→Nat),I st∧∀ st,I st→wp T c (fun e st'=>match e with
  | .normal=>I st'∧μ st'<μ st
  | e=>K e st') st
 | .exit id,K,st=>K (.exit id) st
 | .ret,K,st=>K .ret st
 | .ghost g c,K,st=>dN (wp T c K) st g
def Gd (st:St):nq→Option MV
 | .t s=>some (st.tm s)
 | .cell s n ag=>jT st.mem n ag (st.tm s)
def gh (st:St) (l:List nq):Option MV :=
 match l.mapM (Gd st) with
 | some [m]=>some m
 | some ms=>some (.tup ms)
 | none=>none
def ax (args:List MV):Nat→MV:=fun s=>match args[s]? with
 | some m=>m
 | none => .no
def H0:Value→Option MV
 | .int k n=>some (.dat (.int k n))
 | .bool b=>some (.dat (.bool b))
 | .string s=>some (.dat (.str s.data.toList))
 | .slice none 0 0=>some .nil
 | .pointer none=>some (.dat .nilp)
 | .nilFunc=>some (.dat .nilf)
 | _=>none
def cst:Value→Option MV
 | .agg cs=>(cs.toList.mapM H0).map .agg
 | v=>H0 v
def bo:Operand→Option Opd
 | .tmp t=>some (.t t)
 | .const v=>(cst v).map .c
 | .func f=>some (.c (.clo f []))
 | .global _=>none
def gR (P:Program) (t:TypeId):Option (List MV):=((P.info? t).bind (·.zero)).bind fun z=>z.cells.toList.mapM H0
def cL (P:Program) (t:TypeId):Option Nat:=(P.info? t).map (·.size)
def rg (P:Program) (t:TypeId):Option Nat:=(P.info? t).map (·.bytes)
def yc (P:Program) (t:TypeId):Option Bool:=(P.underlying t).map fun | .struct _=>true | .array _ _=>true | _=>false
def iV (place:Nat→Option (Nat × Nat)) (l:List (Nat × Operand)):Option (List (Nat × Nat × Opd)) :=
 l.mapM fun (i,x)=>do
  let (o,s) ←place i
  let y ←bo x
  pure (o,s,y)
def dq (P:Program) (fs:Array Field) (i:Nat):Option (Nat × Nat):=do
 let f ←fs[i]?
 let s ←cL P f.type
 pure (f.offset,s)
def A6 (P:Program) (t:TypeId):Option Nat :=
 match P.underlying t with
 | some .bool=>some 0
 | some (.int _)=>some 1
 | some .string=>some 2
 | _=>none
def ja (P:Program):Nat→List Field→Option (List Nat)
 | _,[]=>some []
 | i, f :: r => if f.name ≠ "_" ∧ f.offset = i then (match A6 P f.type, ja P (i + 1) r with
  | some k,some ks=>some (k::ks)
  | _,_=>none) else none
def pL (P:Program) (t:TypeId) (fs:Array Field) (neg:Bool) (x y:Operand):Option MOp :=
 if P.stoodInHeld t=false∧P.eqGuardType P.depth t=false then (match ja P 0 fs.toList,bo x,bo y with
  | some ks,some x,some y=>some (.eqs neg ks x y)
  | _,_,_=>none) else none
def B8:Operand→Bool
 | .const (.slice none 0 0)=>true
 | _=>false
def ve (P:Program) (op:BinOp) (t:TypeId) (x y:Operand):Option MOp :=
 match P.underlying t with
 | some (.int _)=>match bo x,bo y with
  | some x,some y=>some (.bin op x y)
  | _,_=>none
 | some .string=>match bo x,bo y with
  | some x,some y=>some (.bin op x y)
  | _,_=>none
 | some .bool=>match op,bo x,bo y with
  | .eql,some x,some y=>some (.beq false x y)
  | .neq,some x,some y=>some (.beq true x y)
  | _,_,_=>none
 | some (.struct fs)=>match op with
  | .eql=>pL P t fs false x y
  | .neq=>pL P t fs true x y
  | _=>none
 | some (.slice _)=>if B8 y=true then (match op with
  | .eql=>(bo x).map (.isnil false)
  | .neq=>(bo x).map (.isnil true)
  | _=>none) else none
 | _=>none
def jk:Option Operand→Option (Option Opd)
 | none=>some none
 | some x=>(bo x).map some
def nv (P:Program) (kb:Nat) (own:List Nat) (dst:Option Nat) (type:TypeId) (c:Call):Option MOp :=
 match c.callee,c.args.toList,c.argTypes.toList with
 | .builtin .len,[x],[t]=>match P.underlying t with
  | some (.slice _)=>(bo x).map .len
  | some .string=>(bo x).map .lens
  | _=>none
 | .builtin .append,[s,x],[t,u]=>match P.underlying t,P.underlying u with
  | some (.slice e),some (.slice _)=>do
   let z ←gR P e
   let b ←rg P e
   let n ←cL P e
   let d ←dst
   let s ←bo s
   let x ←bo x
   if z.length=n∧0<n∧t=u then pure (.app (kb+d) z b s x) else none
  | _,_=>none
 | .builtin .copy,[d,x],[t,u]=>match P.underlying t,P.underlying u with
  | some (.slice e),some (.slice _)=>do
   let n ←cL P e
   if 0<n then pure (.cpy n (←bo d) (←bo x)) else none
  | _,_=>none
 | .builtin .max,[x,y],_=>do pure (.mm true (←bo x) (←bo y))
 | .builtin .min,[x,y],_=>do pure (.mm false (←bo x) (←bo y))
 | .value (.func f),l,_=>if dst.any (fun d=>own.contains d) then (match P.underlying type with
   | some (.slice e)=>do pure (.callo (kb+(←dst)) (←cL P e) f (←l.mapM bo))
   | _=>none) else match own.find? (fun o=>decide (1000000≤o)&&dst==some (o % 1000000)) with
   | some o=>do pure (.callm (o / 1000000-1) f (←l.mapM bo))
   | none=>do pure (.call f (←l.mapM bo))
 | .value f,l,_=>do pure (.callv (←bo f) (←l.mapM bo))
 | _,_,_=>none
def kL (P:Program) (kb:Nat) (own:List Nat) (dst:Option Nat) (type:TypeId):Op→Option MOp
 | .move x=>(bo x).map .mv
 | .assign x=>(bo x).map .mv
 | .pick c a b=>do pure (.pick (←bo c) (←bo a) (←bo b))
 | .alloc e=>do pure (.alloc (kb+(←dst)) (←gR P e))
 | .box _ x=>do pure (.box (kb+(←dst)) (←bo x))
 | .build t ps=>match P.underlying t with
  | some (.struct fs)=>if (fs.toList.all fun f=>(cL P f.type).isSome)=true then do pure (.build (←gR P t) (←iV (dq P fs) ps.toList)) else none
  | some (.array _ e)=>do
   let s ←cL P e
   pure (.build (←gR P t) (←iV (fun i=>some (i*s,s)) ps.toList))
  | _=>none
 | .buildSlice t len ps=>match P.underlying t with
  | some (.slice e)=>do
   let z ←gR P e
   let s ←cL P e
   let ps ←iV (fun i=>some (i*s,s)) ps.toList
   let d ←dst
   if z.length=s∧0<s∧len*s≤16777216 then pure (.bsl (kb+d) (own.contains d) ((Tf len z).flatten) s len ps) else none
  | _=>none
 | .load t x=>do pure (.load (←cL P t) (←yc P t) (←bo x))
 | .store t x v=>do pure (.store (←cL P t) (←bo x) (←bo v))
 | .binOp op t x y _=>ve P op t x y
 | .unOp op _ x=>(bo x).map (.un op)
 | .nilCheck x=>(bo x).map .nchk
 | .convert s t x=>match P.underlying s,P.underlying t with
  | some (.int _),some (.int k)=>(bo x).map (.conv k)
  | _,_=>none
 | .makeFunc (.func f) fst caps=>if fst.size=0 then do pure (.mkfn f (←caps.toList.mapM bo)) else none
 | .makeSlice t l c=>match P.underlying t with
  | some (.slice e)=>do
   let z ←gR P e
   let s ←cL P e
   let b ←rg P e
   let d ←dst
   if z.length=s∧0<s then pure (.mksl (kb+d) z b (←bo l) (←bo c)) else none
  | _=>none
 | .slice t x lo hi mx=>match P.underlying t with
  | some (.slice e)=>do
   let s ←cL P e
   if 0<s then pure (.slc s (←bo x) (←jk lo) (←jk hi) (←jk mx)) else none
  | some (.array n e)=>do
   let s ←cL P e
   if 0<s∧n≤16777216 then pure (.slca n s (←bo x) (←jk lo) (←jk hi) (←jk mx)) else none
  | some .string=>if mx.isNone then do pure (.slcs (←bo x) (←jk lo) (←jk hi)) else none
  | _=>none
 | .fieldAddr t x f=>match P.underlying t with
  | some (.struct fs)=>do
   let (o,s) ←dq P fs f
   if 0<s then pure (.fad o (←bo x)) else none
  | _=>none
 | .field t x f=>match P.underlying t with
  | some (.struct fs)=>do
   let fd ←fs[f]?
   let (o,s) ←dq P fs f
   pure (.fld o s (←yc P fd.type) (←bo x))
  | _=>none
 | .indexAddr t x i=>match P.underlying t with
  | some (.slice e)=>do
   let s ←cL P e
   if 0<s then pure (.iad s (←bo x) (←bo i)) else none
  | some (.array n e)=>do
   let s ←cL P e
   if 0<s then pure (.iada n s (←bo x) (←bo i)) else none
  | _=>none
 | .index t x i=>match P.underlying t with
  | some .string=>do pure (.idxs (←bo x) (←bo i))
  | _=>none
 | .extract x i=>(bo x).map (.ext i)
 | .call c=>nv P kb own dst type c
 | _=>none
def qr (ops:Array Oper):Option (Nat × Bool)→Option (Option (Nat × Bool))
 | none=>some none
 | some (j,b)=>match (ops[j]?).bind (·.dst) with
  | some s=>some (some (s,b))
  | none=>none
def nD (P:Program) (n kb:Nat) (own:List Nat) (ops:Array Oper) (o:Oper):Option MI :=
 match qr ops o.guard with
 | some g=>if o.dst.all (fun d=>decide (d<n))=true then some ⟨o.dst,g,(kL P kb own o.dst o.type o.op).getD .bad⟩ else none
 | _=>none
def f9 (m:MOp):Nat:=match m with
 | .load ..=>1
 | .slca ..=>1
 | m=>if wrs m=true then 2 else 0
def ke (a b:Nat):Bool:=a==0||b==0||(a==1&&b==1)
def dD:Opd→List Nat
 | .t s=>[s]
 | .c _=>[]
def vu:Option Opd→List Nat
 | some (.t s)=>[s]
 | _=>[]
def opds:MOp→List Nat
 | .mv x=>dD x
 | .pick c a b=>dD c++dD a++dD b
 | .alloc _ _=>[]
 | .box _ x=>dD x
 | .build _ ps=>ps.flatMap fun p=>dD p.2.2
 | .bsl _ _ _ _ _ ps=>ps.flatMap fun p=>dD p.2.2
 | .load _ _ x=>dD x
 | .store _ x v=>dD x++dD v
 | .bin _ x y=>dD x++dD y
 | .beq _ x y=>dD x++dD y
 | .eqs _ _ x y=>dD x++dD y
 | .isnil _ x=>dD x
 | .un _ x=>dD x
 | .conv _ x=>dD x
 | .nchk x=>dD x
 | .mksl _ _ _ x y=>dD x++dD y
 | .fad _ x=>dD x
 | .fld _ _ _ x=>dD x
 | .iad _ x i=>dD x++dD i
 | .iada _ _ x i=>dD x++dD i
 | .idxs x i=>dD x++dD i
 | .slc _ x a b c=>dD x++vu a++vu b++vu c
 | .slca _ _ x a b c=>dD x++vu a++vu b++vu c
 | .slcs x a b=>dD x++vu a++vu b
 | .ext _ x=>dD x
 | .len x=>dD x
 | .lens x=>dD x
 | .app _ _ _ s x=>dD s++dD x
 | .cpy _ s x=>dD s++dD x
 | .mm _ x y=>dD x++dD y
 | .call _ l=>l.flatMap dD
 | .callo _ _ _ l=>l.flatMap dD
 | .callv f l=>dD f++l.flatMap dD
 | .callm _ _ l=>l.flatMap dD
 | .mkfn _ l=>l.flatMap dD
 | .bad=>[]
def looks (i:MI):List Nat:=opds i.op++(match i.g with | some (s,_)=>[s] | none=>[])
def lB (x y:MI):Bool :=
 (
  match x.dst with
  | some d => !(looks y).contains d&&y.dst != some d
  | none=>true) &&
 (
  match y.dst with
  | some d => !(looks x).contains d
  | none=>true)
def oJ:List Oper→List Nat→List Nat
 | [],acc=>acc
 | o::r,acc=>oJ r (acc++[o.after.toList.foldl (fun s e=>if Region.binds .any e=true then s ||| (2^e.on ||| acc.getD e.on 0) else s) 0])
def l9:List MI→List MI→List Nat→Bool
 | _,[],_=>true
 | pre,c::cs,a::as=>(pre.zipIdx.all fun (p,i)=>a.testBit i||lB p c)&&l9 (pre++[c]) cs as
 | _,_::_,[]=>false
def oB:Nat→List Oper→Bool
 | _,[]=>true
 | n,o::r=>(o.after.all fun e => !Region.binds .any e||decide (e.on<n))&&oB (n+1) r
def rM (ops:Array Oper) (l:List MI):Bool:=oB 0 ops.toList&&l9 [] l (oJ ops.toList [])
def pW:List MI→List MI→List Nat→List (List Nat)
 | _,[],_=>[]
 | pre,c::cs,as=>((pre.zipIdx.filter fun (p,i) => !((as.headD 0).testBit i||ke (f9 p.op) (f9 c.op))).map (·.2))::pW (pre++[c]) cs as.tail
def gW (P:Program) (n kb:Nat) (own:List Nat):Code→Option MCode
 | .skip=>some .skip
 | .region _ ops draw=>match ops.toList.mapM (nD P n kb own ops) with
  | some l=>if draw=true then (if rM ops l=true then some (.opsD l (pW [] l (oJ ops.toList []))) else none) else some (.ops l)
  | none=>none
 | .seq a b=>match gW P n kb own a,gW P n kb own b with
  | some x,some y=>some (.seq x y)
  | _,_=>none
 | .cond c a b=>match bo c,gW P n kb own a,gW P n kb own b with
  | some c,some x,some y=>some (.cond c x y)
  | _,_,_=>none
 | .block id c=>(gW P n kb own c).map (.block id)
 | .loop c=>(gW P n kb own c).map .loop
 | .exit id=>some (.exit id)
 | .ret=>some .ret
 | _=>none
def wd (P:Program):ResultVar→Option nq
 | .tmp t=>some (.t t)
 | .cell a t=>match cL P t,yc P t with
  | some s,some g=>some (.cell a s g)
  | _,_=>none
def jO (P:Program) (kb:Nat) (own:List Nat) (f:Func):Option MFunc :=
 match f.body with
 | none=>none
 | some c=>match gW P f.ntmps kb own c,f.results.toList.mapM (wd P) with
  | some b,some r=>some { n:=f.ntmps,np:=f.params.size+f.nfree,res:=r,body:=b }
  | _,_=>none
structure StepOK (A:Nat→Prop) (w:World) (B:Lay) (w':World) (B':Lay) (mem':Mem):Prop where
 mr:MemRel A w' B' mem'
 tr:Trans A w B w' B'
 fr:Fr (Own B) w w'
 fresh:∀ b,Own B' b→Own B b∨w.heap.size≤b
theorem StepOK.still {A:Nat→Prop} {w w':World} {B:Lay} {mem:Mem} (h:MemRel A w B mem) (f:Fr (fun _=>False) w w'):StepOK A w B w' B mem:=by
 have tr:Trans A w B w' B:=⟨f.size,fun b hb ho=>⟨f.block b hb id,fun hx=>ho (.inl hx)⟩,fun _ e he=>⟨e,he,.inl rfl⟩⟩
 refine⟨⟨h.dom,h.inj,h.sep,fun b hb=>Te (h.lt b hb) f.size,fun k g cs hm=>?_⟩,tr,⟨f.os,f.tape,f.output,f.size,fun b hb _=>f.block b hb id⟩,fun b hb => .inl hb⟩
 obtain⟨e,he,hg,hn,hb⟩:=h.blk k g cs hm;refine⟨e,he,hg,hn,fun b hbb=>?_⟩
 obtain⟨vs,T,h1,h2,h3,h4⟩:=hb b hbb;have hlt:b<w.heap.size:=(Array.getElem?_eq_some_iff.1 h1).1;exact⟨vs,T,(f.block b hlt id).trans h1,h2,h3,fun i m hm=>let ⟨v,hv,hr⟩:=h4 i m hm;⟨v,hv,hr.keep tr⟩⟩
theorem StepOK.refl {A:Nat→Prop} {w:World} {B:Lay} {mem:Mem} (h:MemRel A w B mem):StepOK A w B w B mem:=.still h (Fr.refl _ _)
def fD (B:Lay) (k:Key) (e:Bk):Lay:=fun j=>if j=k then some e else B j
theorem aZ (B:Lay) (k:Key) (e:Bk):fD B k e k=some e:=by simp [fD]
theorem aQ (B:Lay) {k j:Key} (e:Bk) (h:j≠k):fD B k e j=B j:=by simp [fD,h]
section
variable {A:Nat→Prop} {w w':World} {B:Lay} {mem:Mem} {k:Key} {e':Bk} {cs:List MV}
theorem Trans.change (hsz:w.heap.size≤w'.heap.size)
  (hold:∀ b,b<w.heap.size→(∀ e,B k=some e→e.blk≠some b)→w'.heap[b]?=w.heap[b]?)
  (hg:∀ e,B k=some e→e'=e∨e.g<e'.g)
  (hblk:∀ b,e'.blk=some b→w.heap.size≤b∨∃ e,B k=some e∧e.blk=some b):Trans A w B w' (fD B k e'):=by
 refine⟨hsz,fun b hb ho=>⟨hold b hb fun e he hx=>ho (.inl ⟨k,e,he,hx⟩),?_⟩,fun j e he=>?_⟩
 ·rintro⟨j,e,he,hx⟩
  by_cases hj:j=k
  ·subst hj
   rw[aZ] at he
   cases he;rcases hblk b hx with h1 | ⟨e,h1,h2⟩
   ·omega
   ·exact ho (.inl ⟨_,e,h1,h2⟩)
  ·rw[aQ B e' hj] at he
   exact ho (.inl ⟨j,e,he,hx⟩)
 ·by_cases hj:j=k
  ·subst hj
   exact⟨e',aZ _ _ _,hg e he⟩
  ·exact⟨e,(aQ B e' hj).trans he,.inl rfl⟩
theorem mZ (hblk:∀ b,e'.blk=some b→w.heap.size≤b∨∃ e,B k=some e∧e.blk=some b) (b:Nat) (h:Own (fD B k e') b):Own B b∨w.heap.size≤b:=by
 obtain⟨j,e,he,hx⟩:=h
 by_cases hj:j=k
 ·subst hj
  rw[aZ] at he
  cases he;rcases hblk b hx with h1 | ⟨e,h1,h2⟩
  ·exact .inr h1
  ·exact .inl ⟨_,e,h1,h2⟩
 ·rw[aQ B e' hj] at he
  exact .inl ⟨j,e,he,hx⟩
theorem MemRel.change' (h:MemRel A w B mem) (hsz:w.heap.size≤w'.heap.size)
  (hold:∀ b,b<w.heap.size→(∀ e,B k=some e→e.blk≠some b)→w'.heap[b]?=w.heap[b]?)
  (hg:∀ e,B k=some e→e'=e∨e.g<e'.g)
  (hblk:∀ b,e'.blk=some b→w.heap.size≤b∨∃ e,B k=some e∧e.blk=some b)
  (hn:e'.blk=none→cs=[])
  (hc:∀ b,e'.blk=some b→∃ vs T,w'.heap[b]?=some (.cells vs T (0,0))∧vs.size=e'.size∧cs.length≤vs.size ∧
   ∀ (i:Nat) (m:MV),cs[i]?=some m→∃ v,vs[i]?=some v∧VR w' (OA A (fD B k e')) (fD B k e') m v):MemRel A w' (fD B k e') (az mem k e'.g cs):=by
 have tr:Trans A w B w' (fD B k e'):=Trans.change hsz hold hg hblk;have fresh:=mZ (w:=w) hblk;refine⟨fun j hj=>?_,fun j j' e e2 b he he2 hb hb2=>?_,fun b ha ho=>?_,fun b hb=>Te (h.lt b hb) hsz,fun j g cs' hm=>?_⟩
 ·by_cases hjk:j=k
  ·subst hjk;simp [az] at hj
  ·simp only[az,hjk,if_false] at hj
   rw[aQ B e' hjk];exact h.dom j hj
 ·by_cases hjk:j=k<;>by_cases hjk':j'=k
  ·rw[hjk,hjk']
  ·subst hjk
   rw[aZ] at he
   cases he;rw[aQ B e' hjk'] at he2;rcases hblk b hb with h1 | ⟨e,h1,h2⟩
   ·have:=h.own_lt ⟨j',e2,he2,hb2⟩;omega
   ·exact h.inj _ _ e e2 b h1 he2 h2 hb2
  ·subst hjk'
   rw[aZ] at he2
   cases he2;rw[aQ B e' hjk] at he;rcases hblk b hb2 with h1 | ⟨e3,h1,h2⟩
   ·have:=h.own_lt ⟨j,e,he,hb⟩;omega
   ·exact h.inj _ _ e e3 b he h1 hb h2
  ·rw[aQ B e' hjk] at he
   rw[aQ B e' hjk'] at he2;exact h.inj j j' e e2 b he he2 hb hb2
 ·rcases fresh b ho with h1 | h1
  ·exact h.sep b ha h1
  ·have:=h.lt b ha;omega
 ·by_cases hjk:j=k
  ·subst hjk
   simp only[az,if_true,Option.some.injEq,Prod.mk.injEq] at hm;obtain⟨rfl,rfl⟩:=hm;refine⟨e',aZ _ _ _,rfl,hn,fun b hb=>?_⟩
   obtain⟨vs,T,h1,h2,h3,h4⟩:=hc b hb;exact⟨vs,T,h1,h2,h3,h4⟩
  ·simp only[az,hjk,if_false] at hm
   obtain⟨e,he,hg',hn',hb'⟩:=h.blk j g cs' hm;refine⟨e,(aQ B e' hjk).trans he,hg',hn',fun b hb=>?_⟩
   obtain⟨vs,T,h1,h2,h3,h4⟩:=hb' b hb;have hlt:b<w.heap.size:=(Array.getElem?_eq_some_iff.1 h1).1;have hsame:w'.heap[b]?=w.heap[b]?:=hold b hlt fun e3 h3 h4=>hjk (h.inj j k e e3 b he h3 hb h4)
   exact⟨vs,T,hsame.trans h1,h2,h3,fun i m hm=>let ⟨v,hv,hr⟩:=h4 i m hm;⟨v,hv,hr.keep tr⟩⟩
theorem MemRel.change (h:MemRel A w B mem) (hsz:w.heap.size≤w'.heap.size)
  (hold:∀ b,b<w.heap.size→(∀ e,B k=some e→e.blk≠some b)→w'.heap[b]?=w.heap[b]?)
  (hg:∀ e,B k=some e→e'=e∨e.g<e'.g)
  (hblk:∀ b,e'.blk=some b→w.heap.size≤b∨∃ e,B k=some e∧e.blk=some b)
  (hn:e'.blk=none→cs=[])
  (hc:∀ b,e'.blk=some b→∃ vs T,w'.heap[b]?=some (.cells vs T (0,0))∧vs.size=e'.size∧cs.length≤vs.size ∧
   ∀ (i:Nat) (m:MV),cs[i]?=some m→∃ v,vs[i]?=some v∧VR w (OA A B) B m v):MemRel A w' (fD B k e') (az mem k e'.g cs) :=
 h.change' hsz hold hg hblk hn fun b hb=>by
  have tr:Trans A w B w' (fD B k e'):=Trans.change hsz hold hg hblk;obtain⟨vs,T,h1,h2,h3,h4⟩:=hc b hb;exact⟨vs,T,h1,h2,h3,fun i m hm=>let ⟨v,hv,hr⟩:=h4 i m hm;⟨v,hv,hr.keep tr⟩⟩
theorem StepOK.change (h:MemRel A w B mem) (f:Fr (fun b=>∃ e,B k=some e∧e.blk=some b) w w')
  (hg:∀ e,B k=some e→e'=e∨e.g<e'.g)
  (hblk:∀ b,e'.blk=some b→w.heap.size≤b∨∃ e,B k=some e∧e.blk=some b)
  (hn:e'.blk=none→cs=[])
  (hc:∀ b,e'.blk=some b→∃ vs T,w'.heap[b]?=some (.cells vs T (0,0))∧vs.size=e'.size∧cs.length≤vs.size ∧
   ∀ (i:Nat) (m:MV),cs[i]?=some m→∃ v,vs[i]?=some v∧VR w (OA A B) B m v):StepOK A w B w' (fD B k e') (az mem k e'.g cs):=by
 have hold:∀ b,b<w.heap.size→(∀ e,B k=some e→e.blk≠some b)→w'.heap[b]?=w.heap[b]? :=
  fun b hb hx=>f.block b hb fun⟨e,he,hbb⟩=>hx e he hbb
 exact⟨h.change f.size hold hg hblk hn hc,Trans.change f.size hold hg hblk,⟨f.os,f.tape,f.output,f.size,fun b hb ho=>f.block b hb fun⟨e,he,hbb⟩=>ho ⟨k,e,he,hbb⟩⟩,mZ hblk⟩
theorem mg (h:MemRel A w B mem) (k:Key) (e:Bk) (he:B k=some e):e.g<aD mem k:=by
 cases hm:mem k with
 | none=>rw[h.dom k hm] at he;cases he
 | some x =>
  obtain⟨g,cs⟩:=x;obtain⟨e2,h1,h2,_⟩:=h.blk k g cs hm;rw[h1] at he
  cases he;simp [aD,hm,h2]
theorem StepOK.alloc (h:MemRel A w B mem) (w1:World) (f:Fr (fun _=>False) w w1) (hz:w1.heap.size=w.heap.size) (k:Key) (vs:Array Value) (T:TypeId) (hl:cs.length≤vs.size)
  (hc:∀ (i:Nat) (m:MV),cs[i]?=some m→∃ v,vs[i]?=some v∧VR w (OA A B) B m v) :
  StepOK A w B (w1.alloc (.cells vs T)) (fD B k ⟨aD mem k,some w.heap.size,vs.size⟩) (az mem k (aD mem k) cs):=by
 have f2:Fr (fun _=>False) w (w1.alloc (.cells vs T)):=f.alloc _;refine StepOK.change (e':=⟨aD mem k,some w.heap.size,vs.size⟩) h ⟨f2.os,f2.tape,f2.output,f2.size,fun b hb _=>f2.block b hb id⟩ (fun e he => .inr (mg h k e he)) (fun b hb => .inl ?_) (by simp) ?_
 ·simp at hb;omega
 ·intro b hb
  simp at hb;subst hb;exact⟨vs,T,by rw[←hz];exact heap_alloc_new w1 _,rfl,hl,hc⟩
theorem StepOK.virtual (h:MemRel A w B mem) (k:Key):StepOK A w B w (fD B k ⟨aD mem k,none,0⟩) (az mem k (aD mem k) []) :=
 StepOK.change (e':=⟨aD mem k,none,0⟩) h ⟨rfl,rfl,rfl,Tc _,fun _ _ _=>rfl⟩ (fun e he => .inr (mg h k e he)) (fun b hb=>by simp at hb) (fun _=>rfl) (fun b hb=>by simp at hb)
end
theorem StepOK.trans {A:Nat→Prop} {w w1 w2:World} {B B1 B2:Lay} {m1 m2:Mem} (h:StepOK A w B w1 B1 m1) (h':StepOK A w1 B1 w2 B2 m2):StepOK A w B w2 B2 m2:=by
 refine⟨h'.mr,h.tr.trans h'.tr,⟨h'.fr.os.trans h.fr.os,h'.fr.tape.trans h.fr.tape,h'.fr.output.trans h.fr.output,Td h.fr.size h'.fr.size,fun b hb ho=>?_⟩,fun b hb=>?_⟩
 ·have h1:=h.fr.block b hb ho
  refine (h'.fr.block b (Te hb h.fr.size) fun hx=>?_).trans h1;rcases h.fresh b hx with h2 | h2
  ·exact ho h2
  ·omega
 ·rcases h'.fresh b hb with h1 | h1
  ·exact h.fresh b h1
  ·exact .inr (Td h.fr.size h1)
theorem tU {w:World} {O:Nat→Prop} {B:Lay} {v:Value} {m:MV} (h:H0 v=some m):VR w O B m v:=by
 unfold H0 at h
 split at h<;>simp only[Option.some.injEq,reduceCtorEq] at h<;>subst h
 ·exact .dat .int
 ·exact .dat .bool
 ·rename_i s
  exact .dat (by
   have:s=⟨s.data.toList.toArray⟩:=by simp
   rw[this]
   simpa using Den.str (s:=s.data.toList))
 ·exact .nil
 ·exact .dat .nilp
 ·exact .dat .nilf
theorem di {α β:Type} {f:α→Option β}:∀ {l:List α} {r:List β},l.mapM f=some r→r.length=l.length∧∀ (i:Nat) (x:α) (y:β),l[i]?=some x→r[i]?=some y→f x=some y
 | [],r,h=>by
  simp at h;subst h;exact⟨rfl,fun i x y h1=>by simp at h1⟩
 | a::l,r,h=>by
  simp only[Tg,Th,Ti,Tj,Option.some.injEq] at h;obtain⟨b,hb,r',hr,rfl⟩:=h;obtain⟨h1,h2⟩:=di hr;refine⟨by simp [h1],fun i x y hx hy=>?_⟩
  cases i with
  | zero=>simp at hx hy;subst hx;subst hy;exact hb
  | succ i=>exact h2 i x y (by simpa using hx) (by simpa using hy)
theorem KZ {w:World} {O:Nat→Prop} {B:Lay} {v:Value} {m:MV} (h:cst v=some m):VR w O B m v:=by
 unfold cst at h
 split at h
 ·rename_i cs
  simp only[Tk] at h;obtain⟨ms,hms,rfl⟩:=h;obtain⟨h1,h2⟩:=di hms;have:=VR.agg (w:=w) (O:=O) (B:=B) (cs:=ms) (vs:=cs.toList) (by simp [h1]) fun i d v hd hv=>tU (h2 i v d hv hd)
  simpa using this
 ·exact tU h
section
variable {P:Program} {w:World} {O:Nat→Prop} {B:Lay}
theorem VR.int_inv {k:IntKind} {n:Int} {v:Value} (h:VR w O B (.dat (.int k n)) v):v = .int k n:=by
 cases h with
 | dat h=>cases h;rfl
theorem VR.bool_inv {b:Bool} {v:Value} (h:VR w O B (.dat (.bool b)) v):v = .bool b:=by
 cases h with
 | dat h=>cases h;rfl
theorem VR.str_inv {s:List UInt8} {v:Value} (h:VR w O B (.dat (.str s)) v):v = .string ⟨s.toArray⟩:=by
 cases h with
 | dat h=>cases h;rfl
theorem VR.ofInt {k:IntKind} {n:Int}:VR w O B (.dat (.int k n)) (.int k n):=.dat .int
theorem JW {op:BinOp} {k:IntKind} {a b:Int} {d:Data} (t:TypeId) (hs:oD op=false) (h:Mf op k a b=some d) :
  ∃ v,(binOp op t (.int k a) (.int k b)).run P w = .ok v w∧Den w O d v:=by
 cases op<;>simp only[Mf,Option.some.injEq,reduceCtorEq] at h<;>simp only[oD,Bool.true_eq_false] at hs
 case quo =>
  split at h
  ·cases h
  ·rename_i hb
   cases h;exact⟨_,by simp [go_sem,Op.intDiv,hb],.int⟩
 case rem =>
  split at h
  ·cases h
  ·rename_i hb
   cases h;exact⟨_,by simp [go_sem,Op.intDiv,hb],.int⟩
 all_goals
  subst h
  first
   | exact⟨_,by simp [go_sem,Op.intArith],.int⟩
   | exact⟨_,by simp [go_sem],.int⟩
   | exact⟨_,by simp [go_sem],.bool⟩
theorem Lj {op:BinOp} {k k':IntKind} {a b:Int} {d:Data} (t:TypeId) (hs:oD op=true) (h:shI op k a b=some d) :
  ∃ v,(binOp op t (.int k a) (.int k' b)).run P w = .ok v w∧Den w O d v:=by
 unfold shI at h
 split at h
 ·cases h
 ·rename_i hb
  cases op<;>simp only[oD,Tm] at hs
  ·simp only[Option.some.injEq] at h
   subst h;exact⟨.int k _,by simp [binOp,Op.shift,hb],.int⟩
  ·simp only[Option.some.injEq] at h
   subst h;exact⟨.int k _,by simp [binOp,Op.shift,hb],.int⟩
theorem jv {op:BinOp} {t:TypeId} {x y:Operand} {u v:Value} (h1:u ≠ .nilIface) (h2:∀ c,u ≠ .agg c):eqGuard op t x y u v=pure ():=by
 unfold eqGuard
 cases op<;>cases u<;>first | rfl | exact absurd rfl h1 | exact absurd rfl (h2 _)
theorem HG {op:BinOp} {a b:List UInt8} {d:Data} (t:TypeId) (h:Ma op a b=some d) :
  ∃ v,(binOp op t (.string ⟨a.toArray⟩) (.string ⟨b.toArray⟩)).run P w = .ok v w∧Den w O d v:=by
 have hbin:binOp op t (.string ⟨a.toArray⟩) (.string ⟨b.toArray⟩)=Op.stringOp op ⟨a.toArray⟩ ⟨b.toArray⟩:=by
  cases op<;>rfl
 rw[hbin]
 cases op<;>simp only[Ma,Option.some.injEq,reduceCtorEq] at h
 case add =>
  split at h
  ·rename_i hl
   cases h;refine⟨.string ⟨(a++b).toArray⟩,?_,.str⟩;have hl':¬ (9223372036854775807<(a.length:Int)+(b.length:Int)):=by unfold maxLen at hl;omega
   have e1:(ByteArray.mk a.toArray).size=a.length:=by simp [ByteArray.size]
   have e2:(ByteArray.mk b.toArray).size=b.length:=by simp [ByteArray.size]
   have happ:(ByteArray.mk a.toArray)++(ByteArray.mk b.toArray)=⟨(a++b).toArray⟩:=by
    apply ByteArray.ext;simp
   simp [Op.stringOp,e1,e2,hl',happ]
  ·cases h
 all_goals
  subst h;exact⟨_,by simp [Op.stringOp],.bool⟩
theorem Bq {op:BinOp} {m n r:MV} {u v:Value} (t:TypeId) (x y:Operand) (hm:VR w O B m u) (hn:VR w O B n v) (h:JF op m n=some r) :
  ∃ z,((do eqGuard op t x y u v;binOp op t u v:Sem Value)).run P w = .ok z w∧VR w O B r z:=by
 unfold JF at h
 split at h
 ·rename_i k a k' b
  cases hm.int_inv
  cases hn.int_inv;rw[jv (by simp) (by simp)]
  split at h
  ·rename_i hs
   simp only[Tk] at h;obtain⟨d,hd,rfl⟩:=h;obtain⟨z,h1,h2⟩:=Lj (P:=P) (w:=w) (O:=O) (k':=k') t hs hd;exact⟨z,by simpa using h1,.dat h2⟩
  ·rename_i hs
   split at h
   ·rename_i hk
    subst hk;simp only[Tk] at h;obtain⟨d,hd,rfl⟩:=h;obtain⟨z,h1,h2⟩:=JW (P:=P) (w:=w) (O:=O) t (by simpa using hs) hd;exact⟨z,by simpa using h1,.dat h2⟩
   ·cases h
 ·rename_i a b
  cases hm.str_inv
  cases hn.str_inv;rw[jv (by simp) (by simp)];simp only[Tk] at h;obtain⟨d,hd,rfl⟩:=h;obtain⟨z,h1,h2⟩:=HG (P:=P) (w:=w) (O:=O) t hd;exact⟨z,by simpa using h1,.dat h2⟩
 ·cases h
theorem BE {neg:Bool} {m n r:MV} {u v:Value} (t:TypeId) (x y:Operand) (ht:P.underlying t=some .bool) (hm:VR w O B m u) (hn:VR w O B n v) (h:Kf neg m n=some r) :
  ∃ z,((do eqGuard (if neg then .neq else .eql) t x y u v;binOp (if neg then .neq else .eql) t u v:Sem Value)).run P w = .ok z w∧VR w O B r z:=by
 unfold Kf at h
 split at h
 ·rename_i a b
  cases hm.bool_inv
  cases hn.bool_inv
  cases h;rw[jv (by simp) (by simp)]
  cases neg
  ·exact⟨.bool (a==b),by simp [run_eql_bool w t a b ht],by cases a<;>cases b<;>exact .dat .bool⟩
  ·exact⟨.bool (!(a==b)),by simp [run_neq_bool w t a b ht],by cases a<;>cases b<;>exact .dat .bool⟩
 ·cases h
theorem Hg {t:TypeId} {k:Nat} {m n:MV} {c:Bool} {u v:Value} (d:Nat) (hk:A6 P t=some k) (hm:VR w O B m u) (hn:VR w O B n v) (h:w6 k m n=some c) :
  (Op.equalIn (d+1) t u v).run P w = .ok c w:=by
 unfold A6 at hk;unfold w6 at h
 split at h
 ·simp only[Option.some.injEq] at h
  cases hm.bool_inv
  cases hn.bool_inv;subst h
  split at hk<;>first | (exfalso;simp at hk;done) | (rename_i hu;exact run_equalIn_bool w d t _ _ hu)
 ·split at h
  ·rename_i hkk
   subst hkk
   cases hm.int_inv
   cases hn.int_inv
   cases h
   split at hk<;>first | (exfalso;simp at hk;done) | (rename_i hu;exact run_equalIn_int w d t _ _ _ _ hu)
  ·cases h
 ·simp only[Option.some.injEq] at h
  cases hm.str_inv
  cases hn.str_inv;subst h
  split at hk<;>first | (exfalso;simp at hk;done) | (rename_i hu;rw[run_equalIn_string w d t _ _ hu];simp)
 ·cases h
theorem xt {t:TypeId} {k:Nat} (h:A6 P t=some k):(isAgg t).run P w = .ok false w:=by
 unfold A6 at h
 split at h<;>simp only[Option.some.injEq,reduceCtorEq] at h<;>(rename_i hu;simp [isAgg,run_underlying hu])
theorem qt {d:Nat} {xs ys:Array Value} {cs ds:List MV} (hx:∀ (i:Nat) (m:MV) (v:Value),cs[i]?=some m→xs[i]?=some v→VR w O B m v) (hxl:xs.size=cs.length)
  (hy:∀ (i:Nat) (m:MV) (v:Value),ds[i]?=some m→ys[i]?=some v→VR w O B m v) (hyl:ys.size=ds.length) :
  ∀ (fs:List Field) (i:Nat) (ks:List Nat) (c:Bool),ja P i fs=some ks→lk ks (cs.drop i) (ds.drop i)=some c→(Op.eqFields (d+1) xs ys fs).run P w = .ok c w
 | [],i,ks,c,hf,hc=>by
  simp [ja] at hf;subst hf
  cases h1:cs.drop i<;>cases h2:ds.drop i<;>simp [h1,h2,lk] at hc
  subst hc;simp [Op.eqFields]
 | f::r,i,ks,c,hf,hc=>by
  simp only[ja] at hf
  split at hf
  ·rename_i hn
   obtain⟨hn1,hn2⟩:=hn
   split at hf
   ·rename_i k ks' hk hks
    cases hf
    cases h1:cs.drop i with
    | nil=>simp [h1,lk] at hc
    | cons a x =>
     cases h2:ds.drop i with
     | nil=>simp [h1,h2,lk] at hc
     | cons b y =>
      rw[h1,h2] at hc;simp only[lk] at hc
      split at hc
      ·rename_i c1 c2 hc1 hc2
       cases hc
       have hi1:i<cs.length:=by
        rcases Tn i cs.length with h | h
        ·exact h
        ·rw[To h] at h1;cases h1
       have hi2:i<ds.length:=by
        rcases Tn i ds.length with h | h
        ·exact h
        ·rw[To h] at h2;cases h2
       rw[Tp hi1] at h1;rw[Tp hi2] at h2
       injection h1 with ha hxx
       injection h2 with hb hyy
       subst ha;subst hb;subst hxx;subst hyy
       have ex:xs[f.offset]?=some (xs[i]'(by omega)):=by rw[hn2];exact Array.getElem?_eq_getElem (by omega)
       have ey:ys[f.offset]?=some (ys[i]'(by omega)):=by rw[hn2];exact Array.getElem?_eq_getElem (by omega)
       have rx:=hx i _ _ (Tq hi1) (Array.getElem?_eq_getElem (by omega:i<xs.size));have ry:=hy i _ _ (Tq hi2) (Array.getElem?_eq_getElem (by omega:i<ys.size));have he:=Hg (P:=P) d hk rx ry hc1;have ih:=qt (d:=d) hx hxl hy hyl r (i+1) ks' c2 hks hc2;have hagg:(isAgg f.type).run P w = .ok false w:=xt hk;simp only[Op.eqFields,hn1,ne_eq,not_false_eq_true,if_true,Sem.run_bind,part,hagg,Result.andThen_ok,Tm,if_false,ex,ey,Sem.run_pure,he]
       cases c1
       ·simp
       ·simp [ih]
      ·cases hc
   ·cases hf
  ·cases hf
theorem Em {m:MV} {v:Value} (h:VR w O B m v) (h1:m.one=true):v.oneCell'=true:=by
 cases h with
 | dat hd=>cases hd<;>first | rfl | simp [MV.one] at h1
 | nil=>rfl
 | ref he hg hv=>obtain⟨a,cap,rfl,_⟩:=hv;rfl
 | ptr he hg hv=>obtain⟨b,rfl,_⟩:=hv;rfl
 | clo hl hd=>rfl
 | agg hl hd=>simp [MV.one] at h1
 | tup hl hd=>simp [MV.one] at h1
 | no=>simp [MV.one] at h1
 | undef=>simp [MV.one] at h1
theorem Ff {v:Value} (h:∀ c,v ≠ .agg c):v.cells=#[v]:=by
 unfold Value.cells
 split
 ·rename_i cs;exact absurd rfl (h cs)
 ·rfl
theorem G9 {m:MV} {v:Value} (h:VR w O B m v) (hu:m ≠ .undef):v.cells.size=m.cells.length∧∀ (i:Nat) (c:MV) (u:Value),m.cells[i]?=some c→v.cells[i]?=some u→VR w O B c u:=by
 have one:(∀ c,v ≠ .agg c)→m.cells=[m]→v.cells.size=m.cells.length∧∀ (i:Nat) (c:MV) (u:Value),m.cells[i]?=some c→v.cells[i]?=some u→VR w O B c u:=by
  intro hv hm;rw[hm,Ff hv];refine⟨rfl,fun i c u hc hu=>?_⟩
  cases i with
  | zero=>simp at hc hu;subst hc;subst hu;exact h
  | succ i=>simp at hc
 cases h with
 | dat hd =>
  cases hd with
  | agg hl hd =>
   refine⟨by simp [Value.cells,MV.cells];exact hl,fun i c u hc hu=>?_⟩
   simp only[MV.cells,Tr,Tk] at hc;obtain⟨d,hd',rfl⟩:=hc;exact .dat (hd i d u hd' (by simpa [Value.cells] using hu))
  | _=>exact one (by simp) rfl
 | nil=>exact one (by simp) rfl
 | ref he hg hv=>obtain⟨a,cap,rfl,_⟩:=hv;exact one (by simp) rfl
 | ptr he hg hv=>obtain⟨b,rfl,_⟩:=hv;exact one (by simp) rfl
 | clo hl hd=>exact one (by simp) rfl
 | agg hl hd =>
  refine⟨by simp [Value.cells,MV.cells];exact hl,fun i c u hc hu=>hd i c u (by simpa [MV.cells] using hc) (by simpa [Value.cells] using hu)⟩
 | tup hl hd=>exact one (by simp) rfl
 | no=>exact one (by simp [undef]) rfl
 | undef=>exact absurd rfl hu
end
section
variable {P:Program} {w:World} {O:Nat→Prop} {B:Lay}
def RL (w:World) (O:Nat→Prop) (B:Lay) (cs:List MV) (vs:List Value):Prop :=
 vs.length=cs.length∧∀ (i:Nat) (m:MV) (v:Value),cs[i]?=some m→vs[i]?=some v→VR w O B m v
theorem RL.get {cs:List MV} {vs:List Value} (h:RL w O B cs vs) {i:Nat} {m:MV} (hi:cs[i]?=some m):∃ v,vs[i]?=some v∧VR w O B m v:=by
 have hl:i<cs.length:=(List.getElem?_eq_some_iff.1 hi).1;have hv:vs[i]?=some (vs[i]'(by rw[h.1];exact hl)):=Tq _;exact⟨_,hv,h.2 i m _ hi hv⟩
theorem RL.nil:RL w O B [] []:=⟨rfl,fun i m v h=>by simp at h⟩
theorem RL.cons {m:MV} {v:Value} {cs:List MV} {vs:List Value} (h:VR w O B m v) (hr:RL w O B cs vs):RL w O B (m::cs) (v::vs):=by
 refine⟨by simp [hr.1],fun i m' v' h1 h2=>?_⟩
 cases i with
 | zero=>simp at h1 h2;subst h1;subst h2;exact h
 | succ i=>exact hr.2 i m' v' (by simpa using h1) (by simpa using h2)
theorem RL.append {a b:List MV} {x y:List Value} (h:RL w O B a x) (h':RL w O B b y):RL w O B (a++b) (x++y):=by
 refine⟨by simp [h.1,h'.1],fun i m v h1 h2=>?_⟩
 rw[Ts] at h1 h2
 split at h1
 ·rename_i hi
  rw[if_pos (by rw[h.1];exact hi)] at h2;exact h.2 i m v h1 h2
 ·rename_i hi
  rw[if_neg (by rw[h.1];exact hi),h.1] at h2;exact h'.2 _ m v h1 h2
theorem RL.drop {a:List MV} {x:List Value} (h:RL w O B a x) (n:Nat):RL w O B (a.drop n) (x.drop n) :=
 ⟨by simp [h.1],fun i m v h1 h2=>h.2 (n+i) m v (by simpa using h1) (by simpa using h2)⟩
theorem RL.take {a:List MV} {x:List Value} (h:RL w O B a x) (n:Nat):RL w O B (a.take n) (x.take n):=by
 refine⟨by simp [h.1],fun i m v h1 h2=>?_⟩
 rw[Tt] at h1 h2
 split at h1
 ·rename_i hi
  rw[if_pos hi] at h2;exact h.2 i m v h1 h2
 ·cases h1
theorem RL.splice {a b:List MV} {x y:List Value} (h:RL w O B a x) (h':RL w O B b y) (off:Nat) :
  RL w O B (splice a off b) (x.take off++y++x.drop (off+y.length)):=by
 unfold Mini.splice;rw[h'.1];exact ((h.take off).append h').append (h.drop _)
theorem RL.of_cells {m:MV} {v:Value} (h:VR w O B m v) (hu:m ≠ .undef):RL w O B m.cells v.cells.toList:=by
 obtain⟨h1,h2⟩:=G9 h hu;exact⟨by simpa using h1,fun i c u hc hv=>h2 i c u hc (by simpa using hv)⟩
theorem RL.dat {ds:List Data} {vs:List Value} (hl:vs.length=ds.length) (h:∀ (i:Nat) (d:Data) (v:Value),ds[i]?=some d→vs[i]?=some v→Den w O d v):RL w O B (ds.map .dat) vs:=by
 refine⟨by simp [hl],fun i m v h1 h2=>?_⟩
 simp only[Tr,Tk] at h1;obtain⟨d,hd,rfl⟩:=h1;exact .dat (h i d v hd h2)
theorem mp {cs:List MV} {off n:Nat} {r:List MV} (h:cut cs off n=some r):off+n≤cs.length∧r=(cs.drop off).take n∧r.length=n:=by
 unfold cut at h
 split at h
 ·rename_i hl
  cases h;exact⟨hl,rfl,by simp;omega⟩
 ·cases h
def At (w:World) (b off:Nat) (vs:List Value):Prop:=∀ (j:Nat) (u:Value),vs[j]?=some u→w.cell? ⟨b,off+j,none⟩=some u
theorem At.add {w:World} {b off:Nat} {vs:List Value} (h:At w b off vs) (n:Nat):At w b (off+n) (vs.drop n):=fun j u hj=>by
 have:=h (n+j) u (by simpa using hj)
 rwa [←Tu] at this
theorem At.take {w:World} {b off:Nat} {vs:List Value} (h:At w b off vs) (n:Nat):At w b off (vs.take n):=fun j u hj=>by
 rw[Tt] at hj
 split at hj
 ·exact h j u hj
 ·cases hj
theorem At.row {w:World} {b:Nat} {vs:Array Value} {T:TypeId} {fr:Nat × Nat} (h:w.heap[b]?=some (.cells vs T fr)):At w b 0 vs.toList:=fun j u hj=>by
 rw[Tv,cell_of_row w b j vs T fr h]
 simpa using hj
theorem iI (b off n:Nat):(⟨b,off,none⟩:Addr).add n=⟨b,off+n,none⟩:=by
 unfold Addr.add
 split<;>simp_all
theorem At.load {b off:Nat} {vs:List Value} (h:At w b off vs):(loadCells ⟨b,off,none⟩ vs.length).run P w = .ok vs.toArray w :=
 run_loadCells_list w _ vs fun j v hj=>by rw[iI];exact h j v hj
theorem eI {t:TypeId} {n:Nat} (h:cL P t=some n):(sizeOf t).run P w = .ok n w:=by
 simp only[cL,Tk] at h;obtain⟨i,hi,rfl⟩:=h;simp [sizeOf,typeInfo,hi]
theorem qn {t:TypeId} {g:Bool} (h:yc P t=some g):(isAgg t).run P w = .ok g w:=by
 simp only[yc,Tk] at h;obtain⟨d,hd,rfl⟩:=h;simp only[isAgg,Sem.run_bind,run_underlying hd,Result.andThen_ok]
 cases d<;>rfl
theorem vL {t:TypeId} {n:Nat} {ag:Bool} {b off:Nat} {ms:List MV} {vs:List Value} {r:MV} (hs:cL P t=some n) (ha:yc P t=some ag) (hl:ms.length=n)
  (hrl:RL w O B ms vs) (hat:At w b off vs) (h:kJ ag ms=some r):∃ u,(loadVar t ⟨b,off,none⟩).run P w = .ok u w∧VR w O B r u:=by
 unfold kJ at h
 split at h
 ·rename_i hag
  cases h;subst hag;refine⟨.agg vs.toArray,?_,.agg hrl.1 hrl.2⟩;have:=hat.load (P:=P);rw[hrl.1,hl] at this;simp [loadVar,qn ha,eI hs,this]
 ·rename_i hag
  split at h
  ·cases h
   obtain⟨u,hu,hr⟩:=hrl.get (i:=0) (m:=r) rfl;have:=hat 0 u hu;have hag':ag=false:=by simpa using hag
   subst hag';exact⟨u,by simp [loadVar,qn ha,this];simpa using by rw[show off=off+0 from rfl,this],hr⟩
  ·cases h
end
section
variable {P:Program} {A:Nat→Prop} {w:World} {B:Lay} {mem:Mem}
theorem MemRel.at_ (h:MemRel A w B mem) {k:Key} {g:Nat} {cs:List MV} (hk:mem k=some (g,cs)) :
  ∃ e,B k=some e∧e.g=g∧(e.blk=none→cs=[])∧∀ b,e.blk=some b→∃ (vs:Array Value) (T:TypeId),w.heap[b]?=some (.cells vs T (0,0))∧vs.size=e.size∧cs.length≤vs.size ∧
   RL w (OA A B) B cs (vs.toList.take cs.length):=by
 obtain⟨e,he,hg,hn,hb⟩:=h.blk k g cs hk;refine⟨e,he,hg,hn,fun b hbb=>?_⟩
 obtain⟨vs,T,h1,h2,h3,h4⟩:=hb b hbb;refine⟨vs,T,h1,h2,h3,by simp;omega,fun i m v hm hv=>?_⟩
 obtain⟨u,hu,hr⟩:=h4 i m hm;rw[Tt] at hv
 split at hv
 ·rw[Array.getElem?_toList,hu] at hv
  cases hv;exact hr
 ·cases hv
theorem Bx {n:Nat} {ag:Bool} {m r:MV} {v:Value} (hmr:MemRel A w B mem) (hv:VR w (OA A B) B m v) (h:jT mem n ag m=some r) :
  ∃ b off ms vs,v = .pointer (some ⟨b,off,none⟩)∧ms.length=n∧RL w (OA A B) B ms vs∧At w b off vs∧kJ ag ms=some r:=by
 unfold jT at h
 split at h
 ·rename_i k g off
  split at h
  ·rename_i g' cs hk
   split at h
   ·rename_i hg
    subst hg;simp only[Tj] at h;obtain⟨ms,hms,hr⟩:=h;obtain⟨hl,rfl,hn⟩:=mp hms;obtain⟨e,he,hge,hnn,hb⟩:=hmr.at_ hk
    cases hv with
    | ptr he' hg' hv' =>
     rw[he] at he'
     cases he'
     obtain⟨b,rfl,hbb⟩:=hv';have hbb:=hbb hge.symm;obtain⟨vs,T,hh,hz,hle,hrl⟩:=hb b hbb;refine⟨b,off,_,((vs.toList.take cs.length).drop off).take n,rfl,hn,(hrl.drop off).take n,?_,hr⟩;have:=(((At.row hh).take cs.length).add off).take n
     simpa using this
   ·cases h
  ·cases h
 ·rename_i ds
  simp only[Tj] at h;obtain⟨ms,hms,hr⟩:=h;obtain⟨hl,rfl,hn⟩:=mp hms
  cases hv with
  | dat hd =>
   cases hd with
   | @ptr cs b off val hb hO hc hd =>
    refine⟨b,off,_,((Tw ds.length).map val).take n,rfl,hn,?_,?_,hr⟩
    ·have:RL w (OA A B) B (ds.map .dat) ((Tw ds.length).map val):=RL.dat (by simp) fun i d v h1 h2=>by
      have hi:i<ds.length:=(List.getElem?_eq_some_iff.1 h1).1;simp [hi] at h2;subst h2;exact hd i d h1
     simpa using this.take n
    ·refine At.take (fun j u hj=>?_) n
     simp only[Tr,Tk] at hj;obtain⟨j',hj',rfl⟩:=hj
     have h1:j'=j∧j<ds.length:=by
      rcases Tn j ds.length with h | h
      ·rw[List.getElem?_range h] at hj'
       exact⟨by simpa using hj'.symm,h⟩
      ·rw[Tx (by simpa using h)] at hj'
       cases hj'
     obtain⟨rfl,hjl⟩:=h1;exact hc j' hjl
 ·cases h
theorem FE {t:TypeId} {n:Nat} {ag:Bool} {m r:MV} {v:Value} (hs:cL P t=some n) (ha:yc P t=some ag) (hmr:MemRel A w B mem) (hv:VR w (OA A B) B m v) (h:jT mem n ag m=some r) :
  ∃ u,(Instr.loadAt t v).run P w = .ok u w∧VR w (OA A B) B r u:=by
 obtain⟨b,off,ms,vs,rfl,hl,hrl,hat,hr⟩:=Bx hmr hv h;obtain⟨u,h1,h2⟩:=vL (P:=P) hs ha hl hrl hat hr;exact⟨u,by simpa [Instr.loadAt,Instr.sureAddr] using h1,h2⟩
end
section
variable {P:Program} {w:World} {O:Nat→Prop} {B:Lay}
theorem AL {m:MV} {cs:List MV} {v:Value} (h:Ip m=some cs) (hv:VR w O B m v):∃ vs:List Value,v = .agg vs.toArray∧RL w O B cs vs:=by
 unfold Ip at h
 split at h
 ·cases h
  cases hv with
  | agg hl hd=>exact⟨_,rfl,hl,hd⟩
 ·cases h
  cases hv with
  | dat hd =>
   cases hd with
   | agg hl hd=>exact⟨_,rfl,RL.dat hl hd⟩
 ·cases h
theorem BO {neg:Bool} {ks:List Nat} {m n r:MV} {u v:Value} (t:TypeId) (x y:Operand) (fs:Array Field) (hu:P.underlying t=some (.struct fs)) (hs:P.stoodInHeld t=false)
  (hg:P.eqGuardType P.depth t=false) (hk:ja P 0 fs.toList=some ks) (hm:VR w O B m u) (hn:VR w O B n v) (h:Im neg ks m n=some r) :
  ∃ z,((do eqGuard (if neg then .neq else .eql) t x y u v;binOp (if neg then .neq else .eql) t u v:Sem Value)).run P w = .ok z w∧VR w O B r z:=by
 unfold Im at h
 split at h
 ·rename_i cs ds hcs hds
  split at h
  ·rename_i c hc
   cases h;obtain⟨xs,rfl,hx⟩:=AL hcs hm;obtain⟨ys,rfl,hy⟩:=AL hds hn;have hfo:P.fieldsOf t=fs:=by simp [Program.fieldsOf,hu]
   have he:=run_equalIn_struct (P:=P) w 9999 t xs.toArray ys.toArray (by rw[hfo];exact hu) hs;rw[hfo] at he
   have hf:=qt (P:=P) (w:=w) (O:=O) (B:=B) (d:=9998) (xs:=xs.toArray) (ys:=ys.toArray) (cs:=cs) (ds:=ds)
    (fun i m v h1 h2=>hx.2 i m v h1 (by simpa using h2)) (by simpa using hx.1) (fun i m v h1 h2=>hy.2 i m v h1 (by simpa using h2)) (by simpa using hy.1) fs.toList 0 ks c hk (by simpa using hc)
   have heq:(Op.equal t (.agg xs.toArray) (.agg ys.toArray)).run P w = .ok c w:=by
    show (Op.equalIn (9999+1) t _ _).run P w=_;rw[he];exact hf
   have hgd:∀ op,(op=BinOp.eql∨op = .neq)→(eqGuard op t x y (.agg xs.toArray) (.agg ys.toArray)).run P w = .ok () w:=by
    intro op hop;rcases hop with rfl | rfl<;>simp [eqGuard,hg]
   refine⟨.bool (neg != c),?_,.dat .bool⟩
   cases neg
   ·simp only[Tm,if_false,Sem.run_bind,hgd _ (.inl rfl),Result.andThen_ok]
    show (do pure (Value.bool (←Op.equal t (.agg xs.toArray) (.agg ys.toArray))):Sem Value).run P w=_;simp [heq]
   ·simp only[if_true,Sem.run_bind,hgd _ (.inr rfl),Result.andThen_ok]
    show (do pure (Value.bool (!(←Op.equal t (.agg xs.toArray) (.agg ys.toArray)))):Sem Value).run P w=_;simp [heq]
  ·cases h
 ·cases h
theorem FB {c a b r:MV} {vc va vb:Value} (hc:VR w O B c vc) (ha:VR w O B a va) (hb:VR w O B b vb) (h:wN c a b=some r) :
  ∃ z,(do pure (if ←asBool vc then va else vb):Sem Value).run P w = .ok z w∧VR w O B r z:=by
 unfold wN at h
 split at h
 ·rename_i t
  cases hc.bool_inv
  cases t
  ·cases h;exact⟨vb,by simp [asBool],hb⟩
  ·cases h;exact⟨va,by simp [asBool],ha⟩
 ·cases h
theorem L4 {op:UnOp} {m r:MV} {v:Value} (hm:VR w O B m v) (h:unM op m=some r):∃ z,(Op.unary op v).run P w = .ok z w∧VR w O B r z:=by
 unfold unM at h
 split at h
 ·cases h;cases hm.int_inv;exact⟨_,by simp [Op.unary,Op.intArith],.dat .int⟩
 ·cases h;cases hm.int_inv;exact⟨_,by simp [Op.unary,go_sem],.dat .int⟩
 ·cases h;cases hm.bool_inv;exact⟨_,by simp [Op.unary],.dat .bool⟩
 ·cases h
theorem Fh {k:IntKind} {m r:MV} {v:Value} (s t:TypeId) (ks:IntKind) (hs:P.underlying s=some (.int ks)) (ht:P.underlying t=some (.int k)) (hm:VR w O B m v) (h:Bd k m=some r) :
  ∃ z,(convert s t v).run P w = .ok z w∧VR w O B r z:=by
 unfold Bd at h
 split at h
 ·cases h
  cases hm.int_inv;have hi:P.intKind t=k:=by simp [Program.intKind,ht]
  have:=run_convert_int (P:=P) w s t;exact⟨.int k _,by simp [convert,run_underlying hs,run_underlying ht,Conv.intToInt],.dat .int⟩
 ·cases h
theorem Ji {off:Nat} {m r:MV} {v:Value} (t:TypeId) (f:Nat) (fs:Array Field) (fd:Field) (s:Nat) (hu:P.underlying t=some (.struct fs)) (hf:fs[f]?=some fd) (hs:cL P fd.type=some s) (h0:0<s)
  (ho:fd.offset=off) (hm:VR w O B m v) (h:HI off m=some r):∃ z,(Instr.fieldAt t v f).run P w = .ok z w∧VR w O B r z:=by
 have hne:¬ s=0:=by omega
 have run:∀ b o,(Instr.fieldAt t (.pointer (some ⟨b,o,none⟩)) f).run P w = .ok (.pointer (some ⟨b,o+off,none⟩)) w:=by
  intro b o;simp [Instr.fieldAt,run_underlying hu,hf,Instr.sureAddr,fieldPlace,eI hs,hne,iI,ho]
 unfold HI at h
 split at h
 ·cases h
  rename_i k g o
  cases hm with
  | ptr he hg hv =>
   obtain⟨b,rfl,hb⟩:=hv;exact⟨_,run b o,.ptr he hg ⟨b,rfl,hb⟩⟩
 ·rename_i ds
  split at h
  ·rename_i hl
   cases h
   cases hm with
   | dat hd =>
    cases hd with
    | @ptr cs b o val hb hO hc hd =>
     refine⟨_,run b o,.dat (.ptr (fun i=>val (off+i)) hb hO (fun i hi=>?_) fun i d hid=>hd _ d (by simpa using hid))⟩;have:=hc (off+i) (by simp at hi;omega)
     rwa [←Tu] at this
  ·cases h
 ·cases h
theorem Ku {t:TypeId} {n off:Nat} {ag:Bool} {cs ms:List MV} {vs:List Value} {r:MV} (hs:cL P t=some n) (ha:yc P t=some ag) (hrl:RL w O B cs vs) (hc:cut cs off n=some ms) (h:kJ ag ms=some r) :
  ∃ u,(part t vs.toArray off).run P w = .ok u w∧VR w O B r u:=by
 obtain⟨hl,rfl,hn⟩:=mp hc;have hr2:=(hrl.drop off).take n;unfold kJ at h
 split at h
 ·rename_i hag
  cases h;subst hag;refine⟨.agg ((vs.drop off).take n).toArray,?_,.agg hr2.1 hr2.2⟩
  have e:vs.toArray.extract off (off+n)=((vs.drop off).take n).toArray:=by
   simp [List.extract_eq_take_drop]
  simp [part,qn ha,eI hs,e]
 ·rename_i hag
  have hag':ag=false:=by simpa using hag
  subst hag'
  split at h
  ·rename_i m hms
   cases h
   have hi:cs[off]?=some r:=by
    have:=congrArg (fun l=>l[0]?) hms;simp [Tt] at this;exact this.2
   obtain⟨u,hu,hru⟩:=hrl.get hi;exact⟨u,by simp [part,qn ha,hu],hru⟩
  ·cases h
theorem Jj {off n:Nat} {ag:Bool} {m r:MV} {v:Value} (t:TypeId) (f:Nat) (fs:Array Field) (fd:Field) (hu:P.underlying t=some (.struct fs)) (hf:fs[f]?=some fd) (hs:cL P fd.type=some n)
  (ha:yc P fd.type=some ag) (ho:fd.offset=off) (hm:VR w O B m v) (h:Kj off n ag m=some r):∃ z,(Instr.field t v f).run P w = .ok z w∧VR w O B r z:=by
 subst ho
 have go:∀ (cs:List MV) (vs:List Value),RL w O B cs vs→(cut cs fd.offset n).bind (kJ ag)=some r→∃ z,(Instr.field t (.agg vs.toArray) f).run P w = .ok z w∧VR w O B r z:=by
  intro cs vs hrl hh;simp only[Tj] at hh;obtain⟨ms,h1,h2⟩:=hh;obtain⟨u,h3,h4⟩:=Ku (P:=P) hs ha hrl h1 h2;exact⟨u,by simp [Instr.field,run_underlying hu,hf,asAgg,h3],h4⟩
 unfold Kj at h
 split at h
 ·cases hm with
  | agg hl hd=>exact go _ _ ⟨hl,hd⟩ h
 ·cases hm with
  | dat hd =>
   cases hd with
   | agg hl hd=>exact go _ _ (RL.dat hl hd) h
 ·cases h
theorem ow {m:MV} {n:Nat} {v:Value} (h:idx m=some n) (hv:VR w O B m v):∃ k,v = .int k (n:Int):=by
 unfold idx at h
 split at h
 ·rename_i k i
  split at h
  ·rename_i h0
   cases h
   cases hv.int_inv;exact⟨k,by rw[Int.toNat_of_nonneg h0]⟩
  ·cases h
 ·cases h
theorem RefOK.at_ {e:Bk} {g sz off len:Nat} {v:Value} (h:RefOK e g sz off len v) (h0:0<len):∃ b cap,v = .slice (some ⟨b,off,none⟩) len cap∧len≤cap∧cap≤maxLen∧(g=e.g→e.blk=some b∧off+cap*sz≤e.size):=by
 obtain⟨a,cap,rfl,h2,h3,h4⟩:=h;rcases h4 with h4 | ⟨b,rfl,h5⟩
 ·omega
 ·exact⟨b,cap,rfl,h2,h3,h5⟩
theorem Ai {es:List (List Data)} {sz:Nat} (hsz:∀ e∈es,e.length=sz):∀ (n i:Nat) (e:List Data),es[n]?=some e→i<sz→es.flatten[n*sz+i]?=e[i]?:=by
 induction es with
 | nil=>intro n i e h;simp at h
 | cons a r ih =>
  intro n i e h hi;have ha:=hsz a (by simp)
  cases n with
  | zero =>
   simp at h;subst h;rw[S8,List.getElem?_append_left (by omega)];simp
  | succ n =>
   rw[S8,List.getElem?_append_right (by rw[ha,Ty];omega)];have:=ih (fun x hx=>hsz x (by simp [hx])) n i e (by simpa using h) hi;rw[←this,ha]
   congr 1
   rw[Ty];omega
theorem Kc {sz n:Nat} {m r:MV} {v:Value} {k:IntKind} (t e:TypeId) (hu:P.underlying t=some (.slice e)) (hs:cL P e=some sz) (hm:VR w O B m v) (h:yj sz n m=some r) :
  ∃ z,(Instr.indexAt t v (.int k (n:Int))).run P w = .ok z w∧VR w O B r z:=by
 have run:∀ b off len cap,n<len→(Instr.indexAt t (.slice (some ⟨b,off,none⟩) len cap) (.int k (n:Int))).run P w = .ok (.pointer (some ⟨b,off+n*sz,none⟩)) w:=by
  intro b off len cap hlt;simp [Instr.indexAt,run_underlying hu,asIntOf,hlt,eI hs,iI]
 unfold yj at h
 split at h
 ·split at h
  ·rename_i hl
   obtain⟨hlt,rfl⟩:=hl
   cases h
   cases hm with
   | ref he hg hv =>
    obtain⟨b,cap,rfl,h1,h2,h3⟩:=hv.at_ (by omega);exact⟨_,run _ _ _ _ hlt,.ptr he hg ⟨b,rfl,fun h=>(h3 h).1⟩⟩
  ·cases h
 ·rename_i es
  split at h
  ·rename_i el hel
   split at h
   ·rename_i hle
    cases h
    cases hm with
    | dat hd =>
     have hlt:n<es.length:=(List.getElem?_eq_some_iff.1 hel).1
     cases hd with
     | sl0=>simp at hlt
     | @sl es b off c sz' val hl hmm hb hO hsz hc hd =>
      have hszz:sz'=sz:=by rw[←hle];exact (hsz _ (List.mem_of_getElem? hel)).symm
      subst hszz
      have hmul:n*sz'+sz'≤es.length*sz':=by
       have:(n+1)*sz'≤es.length*sz':=Tz _ hlt
       rwa [Ta,Tb] at this
      refine⟨_,run _ _ _ _ hlt,.dat (.ptr (fun i=>val (n*sz'+i)) hb hO (fun i hi=>?_) fun i d hid=>?_)⟩
      ·have:=hc (n*sz'+i) (by omega)
       rwa [←Tu] at this
      ·refine hd _ d ?_
       rw[Ai hsz n i el hel (by have:=(List.getElem?_eq_some_iff.1 hid).1;omega)];exact hid
   ·cases h
  ·cases h
 ·cases h
theorem GB {len sz n:Nat} {m r:MV} {v:Value} {k:IntKind} (t e:TypeId) (hu:P.underlying t=some (.array len e)) (hs:cL P e=some sz) (hm:VR w O B m v) (h:zz len sz n m=some r) :
  ∃ z,(Instr.indexAt t v (.int k (n:Int))).run P w = .ok z w∧VR w O B r z:=by
 have run:∀ b off,n<len→(Instr.indexAt t (.pointer (some ⟨b,off,none⟩)) (.int k (n:Int))).run P w = .ok (.pointer (some ⟨b,off+n*sz,none⟩)) w:=by
  intro b off hlt;simp [Instr.indexAt,run_underlying hu,asIntOf,Instr.sureAddr,hlt,eI hs,iI]
 unfold zz at h
 split at h
 ·split at h
  ·rename_i hlt
   cases h
   cases hm with
   | ptr he hg hv =>
    obtain⟨b,rfl,hb⟩:=hv;exact⟨_,run _ _ hlt,.ptr he hg ⟨b,rfl,hb⟩⟩
  ·cases h
 ·rename_i ds
  split at h
  ·rename_i hl
   obtain⟨hlt,hle⟩:=hl
   cases h
   cases hm with
   | dat hd =>
    cases hd with
    | @ptr cs b o val hb hO hc hd =>
     refine⟨_,run _ _ hlt,.dat (.ptr (fun i=>val (n*sz+i)) hb hO (fun i hi=>?_) fun i d hid=>hd _ d (by simpa using hid))⟩;have:=hc (n*sz+i) (by simp at hi;omega)
     rwa [←Tu] at this
  ·cases h
 ·cases h
theorem GT {n:Nat} {m r:MV} {v:Value} {k:IntKind} (t:TypeId) (hu:P.underlying t=some .string) (hm:VR w O B m v) (h:AQ n m=some r) :
  ∃ z,(Instr.index t v (.int k (n:Int))).run P w = .ok z w∧VR w O B r z:=by
 unfold AQ at h
 split at h
 ·rename_i s
  simp only[Tk] at h;obtain⟨b,hb,rfl⟩:=h
  cases hm.str_inv;have hlt:n<s.length:=(List.getElem?_eq_some_iff.1 hb).1
  have e:(ByteArray.mk s.toArray)[n]?=some b:=by
   rw[ByteArray.getElem?_lt' _ _ (by simpa [ByteArray.size] using hlt)];have:=(List.getElem?_eq_some_iff.1 hb).2;simp only[Option.some.injEq];rw[←this]
   rfl
  exact⟨.int .u8 b.toNat,by simp [Instr.index,run_underlying hu,asIntOf,e],.dat .int⟩
 ·cases h
theorem Iy {i:Nat} {m r:MV} {v:Value} (hm:VR w O B m v) (h:H2 i m=some r):∃ z,(Instr.extract v i).run P w = .ok z w∧VR w O B r z:=by
 unfold H2 at h
 split at h
 ·cases hm with
  | tup hl hd =>
   obtain⟨u,hu,hr⟩:=RL.get ⟨hl,hd⟩ h;exact⟨u,by simp [Instr.extract,hu],hr⟩
 ·simp only[Tk] at h
  obtain⟨d,hd',rfl⟩:=h
  cases hm with
  | dat hd =>
   cases hd with
   | tup hl hd =>
    obtain⟨u,hu,hr⟩:=RL.get (RL.dat hl hd) (i:=i) (m:=.dat d) (by simp [hd']);exact⟨u,by simp [Instr.extract,hu],hr⟩
 ·cases h
theorem KB {m:MV} {n:Nat} {v:Value} (t ty e:TypeId) (ht:P.underlying t=some (.slice e)) (hm:VR w O B m v) (h:oL m=some n) :
  (Builtin.len_ #[t] ty #[v]).run P w = .ok (.int .i64 n) w:=by
 have run:∀ a c,(Builtin.len_ #[t] ty #[.slice a n c]).run P w = .ok (.int .i64 n) w:=fun a c=>by
  simp [Builtin.len_,run_underlying ht,goInt]
 unfold oL at h
 split at h<;>cases h
 ·cases hm with
  | dat hd =>
   cases hd with
   | sl0=>exact run _ _
   | sl=>exact run _ _
 ·cases hm with
  | nil=>exact run _ _
 ·cases hm with
  | ref he hg hv=>obtain⟨a,cap,rfl,_⟩:=hv;exact run _ _
theorem Hs {m:MV} {n:Nat} {v:Value} (t ty:TypeId) (ht:P.underlying t=some .string) (hm:VR w O B m v) (h:rc m=some n) :
  (Builtin.len_ #[t] ty #[v]).run P w = .ok (.int .i64 n) w:=by
 unfold rc at h
 split at h<;>cases h
 rename_i s
 cases hm.str_inv;have e:(ByteArray.mk s.toArray).size=s.length:=by simp [ByteArray.size]
 simp [Builtin.len_,run_underlying ht,goInt,e]
theorem D4 {mx:Bool} {m n r:MV} {u v:Value} (ts:Array TypeId) (t:TypeId) (hm:VR w O B m u) (hn:VR w O B n v) (h:mmM mx m n=some r) :
  ∃ z,(if mx=true then Builtin.max_ ts t #[u,v] else Builtin.min_ ts t #[u,v]).run P w = .ok z w∧VR w O B r z:=by
 unfold mmM at h
 split at h
 ·split at h
  ·rename_i hk
   subst hk
   cases h
   cases hm.int_inv
   cases hn.int_inv
   cases mx
   ·exact⟨_,by simp [run_min_int2],.dat .int⟩
   ·exact⟨_,by simp [run_max_int2],.dat .int⟩
  ·cases h
 ·cases h
theorem G6 {m r:MV} {v:Value} (hm:VR w O B m v) (h:Bc m=some r):(∃ b off,v = .pointer (some ⟨b,off,none⟩))∧VR w O B r v:=by
 unfold Bc at h
 split at h
 ·cases h
  refine⟨?_,hm⟩
  cases hm with
  | ptr he hg hv=>obtain⟨b,rfl,_⟩:=hv;exact⟨_,_,rfl⟩
 ·cases h
  refine⟨?_,hm⟩
  cases hm with
  | dat hd=>cases hd;exact⟨_,_,rfl⟩
 ·cases h
theorem kj {x:MV} {n y:Nat} {v:Value} (code:BoundsCode) (hx:idx x=some n) (hv:VR w O B x v) (hn:n≤y):(Instr.sliceBound v y code).run P w = .ok n w:=by
 obtain⟨k,rfl⟩:=ow hx hv
 simpa using run_sliceBound (P:=P) w k (n:Int) y code (by omega) (by omega)
def OR (w:World) (O:Nat→Prop) (B:Lay):Option MV→Option Value→Prop
 | none,none=>True
 | some m,some v=>VR w O B m v
 | _,_=>False
theorem pj {len cap l h:Nat} {lo hi:Option MV} {vlo vhi:Option Value} (isS:Bool) (hlo:iL 0 lo=some l) (hhi:iL len hi=some h)
  (rlo:OR w O B lo vlo) (rhi:OR w O B hi vhi) (hl:l≤h) (hh:h≤cap):(Instr.sliceBounds isS len cap vlo vhi none).run P w = .ok (l,h,cap) w:=by
 unfold Instr.sliceBounds
 cases lo with
 | none =>
  cases vlo with
  | some v=>exact rlo.elim
  | none =>
   simp [iL] at hlo;subst hlo
   cases hi with
   | none =>
    cases vhi with
    | some v=>exact rhi.elim
    | none=>simp [iL] at hhi;subst hhi;simp
   | some m =>
    cases vhi with
    | none=>exact rhi.elim
    | some v =>
     have e2:=fun code=>kj (P:=P) (y:=cap) code hhi rhi hh
     cases isS<;>simp [e2]
 | some ml =>
  cases vlo with
  | none=>exact rlo.elim
  | some vl =>
   have e1:=fun code=>kj (P:=P) (y:=h) code hlo rlo hl
   cases hi with
   | none =>
    cases vhi with
    | some v=>exact rhi.elim
    | none=>simp [iL] at hhi;subst hhi;simp [e1]
   | some m =>
    cases vhi with
    | none=>exact rhi.elim
    | some v =>
     have e2:=fun code=>kj (P:=P) (y:=cap) code hhi rhi hh
     cases isS<;>simp [e1,e2]
theorem AM {len cap l h m:Nat} {lo:Option MV} {hi mx:MV} {vlo:Option Value} {vhi vmx:Value} (hlo:iL 0 lo=some l) (hhi:idx hi=some h) (hmx:idx mx=some m)
  (rlo:OR w O B lo vlo) (rhi:VR w O B hi vhi) (rmx:VR w O B mx vmx) (hl:l≤h) (hh:h≤m) (hm:m≤cap):(Instr.sliceBounds true len cap vlo (some vhi) (some vmx)).run P w = .ok (l,h,m) w:=by
 have e0:=kj (P:=P) (y:=cap) .slice3Acap hmx rmx hm;have e2:=kj (P:=P) (y:=m) .slice3B hhi rhi hh;unfold Instr.sliceBounds
 cases lo with
 | none =>
  cases vlo with
  | some v=>exact rlo.elim
  | none =>
   simp [iL] at hlo;subst hlo;simp [e0,e2]
 | some ml =>
  cases vlo with
  | none=>exact rlo.elim
  | some vl =>
   have e1:=kj (P:=P) (y:=h) .slice3C hlo rlo hl;simp [e0,e2,e1]
theorem nc {m:MV} {n:Nat} {v:Value} (hm:VR w O B m v) (h:oL m=some n):∃ a c,v = .slice a n c∧n≤c:=by
 unfold oL at h
 split at h<;>cases h
 ·cases hm with
  | dat hd =>
   cases hd with
   | sl0=>exact⟨_,_,rfl,by simp⟩
   | sl val hl=>exact⟨_,_,rfl,hl⟩
 ·cases hm with
  | nil=>exact⟨_,_,rfl,by simp⟩
 ·cases hm with
  | ref he hg hv=>obtain⟨a,cap,rfl,h1,_⟩:=hv;exact⟨_,_,rfl,h1⟩
theorem wu {t e:TypeId} {sz l h mm:Nat} {a:Option Addr} {len cap:Nat} {vlo vhi vmx:Option Value} (ht:P.underlying t=some (.slice e)) (hs:cL P e=some sz)
  (hb:(Instr.sliceBounds true len cap vlo vhi vmx).run P w = .ok (l,h,mm) w) :
  (Instr.sliceAt t (.slice a len cap) vlo vhi vmx).run P w = .ok (.slice (if mm=l then a else a.map (·.add (l*sz))) (h-l) (mm-l)) w:=by
 simp [Instr.sliceAt,Instr.slice,run_underlying ht,hb,eI hs]
theorem xE {es:List (List Data)} {sz:Nat} (hsz:∀ e∈es,e.length=sz) (l:Nat):(es.drop l).flatten=es.flatten.drop (l*sz):=by
 induction es generalizing l with
 | nil=>simp
 | cons a r ih =>
  cases l with
  | zero=>simp
  | succ l =>
   have ha:=hsz a (by simp);rw[List.drop_succ_cons,ih (fun x hx=>hsz x (by simp [hx])) l,S8,List.drop_append,ha];have h1:a.drop ((l+1)*sz)=[]:=To (by rw[ha,Ty];omega);rw[h1,List.nil_append]
   congr 1
   rw[Ty];omega
theorem yF {es:List (List Data)} {sz:Nat} (hsz:∀ e∈es,e.length=sz) (l:Nat):(es.take l).flatten=es.flatten.take (l*sz):=by
 induction es generalizing l with
 | nil=>simp
 | cons a r ih =>
  cases l with
  | zero=>simp
  | succ l =>
   have ha:=hsz a (by simp);rw[List.take_succ_cons,S8,ih (fun x hx=>hsz x (by simp [hx])) l,S8,TA,ha];have h1:a.take ((l+1)*sz)=a:=TB (by rw[ha,Ty];omega);rw[h1]
   congr 2
   rw[Ty];omega
theorem Bu {es:List (List Data)} {a:Option Addr} {len c sz l h cc:Nat} (hd:Den w O (.sl es) (.slice a len c)) (hl:l≤h) (hh:h≤es.length) (hsz:0<es.length→∀ e∈es,e.length=sz) (hc:h-l≤cc) :
  l=h∨Den w O (.sl ((es.take h).drop l)) (.slice (a.map (·.add (l*sz))) (h-l) cc):=by
 rcases TC hl with rfl | hlt
 ·exact .inl rfl
 ·refine .inr ?_
  cases hd with
  | sl0=>simp at hh;omega
  | @sl es b off c sz' val hl' hm hb hO hsz' hcell hdd =>
   have hpos:0<es.length:=by omega
   have hszz:sz'=sz:=by
    have h0:=TD (l:=es) (n:=0) hpos;rw[←hsz' _ h0,hsz hpos _ h0]
   subst hszz;have hlen:((es.take h).drop l).length=h-l:=by simp;omega
   have hmul:l*sz'+(h-l)*sz'≤es.length*sz':=by
    rw[←Ta];exact Tz _ (by omega)
   have:=Den.sl (w:=w) (O:=O) (es:=(es.take h).drop l) (b:=b) (off:=off+l*sz') (c:=cc) (sz:=sz') (fun i=>val (l*sz'+i)) (by rw[hlen];exact hc) (by rw[hlen];omega) hb hO
    (fun e he=>hsz' e (TE (List.mem_of_mem_drop he)))
    (fun i hi=>by
     rw[hlen] at hi;have:=hcell (l*sz'+i) (by omega)
     rwa [←Tu] at this)
    (fun i d hid=>by
     refine hdd _ d ?_;rw[xE (fun e he=>hsz' e (TE he)) l,yF hsz' h] at hid;rw[List.getElem?_drop,Tt] at hid
     split at hid
     ·exact hid
     ·cases hid)
   rw[hlen] at this
   simpa [iI] using this
end
section
variable {P:Program} {w:World} {O:Nat→Prop} {B:Lay}
theorem rp {sz:Nat} {es:List (List Data)} (h:qj sz es=true):∀ e∈es,e.length=sz:=fun e he=>by
 simpa using List.all_eq_true.1 h e he
theorem Js {t e:TypeId} {sz l h len:Nat} {m r:MV} {v:Value} {vlo vhi:Option Value} {lo hi:Option MV} (ht:P.underlying t=some (.slice e)) (hs:cL P e=some sz)
  (hlo:iL 0 lo=some l) (hlen:oL m=some len) (hhi:iL len hi=some h) (rlo:OR w O B lo vlo) (rhi:OR w O B hi vhi) (hm:VR w O B m v) (hr:KJ sz l h m=some r) :
  ∃ z,(Instr.sliceAt t v vlo vhi none).run P w = .ok z w∧VR w O B r z:=by
 obtain⟨a,cap,rfl,hcap⟩:=nc hm hlen
 have run:l≤h→h≤len→(Instr.sliceAt t (.slice a len cap) vlo vhi none).run P w = .ok (.slice (if cap=l then a else a.map (·.add (l*sz))) (h-l) (cap-l)) w:=fun h1 h2 =>
  wu ht hs (pj true hlo hhi rlo rhi h1 (by omega))
 unfold KJ at hr
 split at hr
 ·rename_i es
  split at hr
  ·rename_i hc
   obtain⟨h1,h2,h3⟩:=hc
   cases hr;simp only[oL,Option.some.injEq] at hlen;subst hlen;refine⟨_,run h1 h2,.dat ?_⟩
   cases hm with
   | dat hd =>
    rcases Bu (sz:=sz) hd h1 h2 (fun _=>rp h3) (cc:=cap-l) (by omega) with rfl | hp
    ·rw[show ((es.take l).drop l)=[] from by simp]
     rw[TF];exact .sl0
    ·rcases TC h1 with rfl | hlt
     ·rw[show ((es.take l).drop l)=[] from by simp]
      rw[TF];exact .sl0
     ·rw[if_neg (by omega)]
      exact hp
  ·cases hr
 ·split at hr
  ·rename_i hc
   obtain⟨rfl,rfl⟩:=hc
   cases hr
   cases hm with
   | nil=>exact⟨_,run (by omega) (by omega),by simpa using VR.nil⟩
  ·cases hr
 ·split at hr
  ·rename_i k g sz' off len' hc
   obtain⟨rfl,h1,h2⟩:=hc
   cases hr;simp only[oL,Option.some.injEq] at hlen;subst hlen
   cases hm with
   | ref he hg hv =>
    refine⟨_,run h1 h2,.ref he hg ?_⟩;obtain⟨a',cap',hv1,hv2,hv3,hv4⟩:=hv
    injection hv1 with e1 e2 e3
    subst e1;subst e3
    refine⟨_,cap-l,rfl,by omega,by omega,?_⟩
    rcases Nat.eq_zero_or_pos (cap-l) with h0 | h0
    ·exact .inl h0
    ·refine .inr ?_
     rcases hv4 with h4 | ⟨b,rfl,h5⟩
     ·omega
     ·refine⟨b,by rw[if_neg (by omega)];simp [iI],fun hge=>?_⟩
      obtain⟨h6,h7⟩:=h5 hge;refine⟨h6,?_⟩;rw[Tu,←Ta]
      rwa [show l+(cap-l)=cap from by omega]
  ·cases hr
 ·cases hr
theorem F8 {t e:TypeId} {sz l h mm:Nat} {m r:MV} {v:Value} {vlo:Option Value} {vhi vmx:Value} {lo:Option MV} {hi mx:MV} (ht:P.underlying t=some (.slice e)) (hs:cL P e=some sz)
  (hlo:iL 0 lo=some l) (hhi:idx hi=some h) (hmx:idx mx=some mm) (rlo:OR w O B lo vlo) (rhi:VR w O B hi vhi) (rmx:VR w O B mx vmx) (hm:VR w O B m v) (hr:Aw sz l h mm m=some r) :
  ∃ z,(Instr.sliceAt t v vlo (some vhi) (some vmx)).run P w = .ok z w∧VR w O B r z:=by
 have run:∀ a len cap,l≤h→h≤mm→mm≤len→len≤cap→(Instr.sliceAt t (.slice a len cap) vlo (some vhi) (some vmx)).run P w = .ok (.slice (if mm=l then a else a.map (·.add (l*sz))) (h-l) (mm-l)) w :=
  fun a len cap h1 h2 h3 h4=>wu ht hs (AM hlo hhi hmx rlo rhi rmx h1 h2 (by omega))
 unfold Aw at hr
 split at hr
 ·rename_i es
  split at hr
  ·rename_i hc
   obtain⟨h1,h2,h3,h4⟩:=hc;obtain⟨a,cap,rfl,hcap⟩:=nc hm (n:=es.length) rfl;refine⟨_,run a _ cap h1 h2 h3 hcap,?_⟩
   split at hr
   ·rename_i hml
    cases hr;subst hml;have:h=mm:=by omega
    subst this
    simpa using VR.nil
   ·rename_i hml
    cases hr;rw[if_neg hml]
    cases hm with
    | dat hd =>
     refine .dat ?_;rcases TC h1 with rfl | hlt
     ·rw[show ((es.take l).drop l)=[] from by simp]
      rw[TF];exact .sl0
     ·rcases Bu (sz:=sz) hd h1 (by omega) (fun _=>rp h4) (cc:=mm-l) (by omega) with h0 | hp
      ·omega
      ·exact hp
  ·cases hr
 ·split at hr
  ·rename_i hc
   obtain⟨rfl,rfl,rfl⟩:=hc
   cases hr;obtain⟨a,cap,rfl,hcap⟩:=nc hm (n:=0) rfl;exact⟨_,run a _ cap (by omega) (by omega) (by omega) hcap,by simpa using VR.nil⟩
  ·cases hr
 ·rename_i k g sz' off len
  split at hr
  ·rename_i hc
   obtain⟨h1,h2,h3,rfl⟩:=hc
   cases hr;obtain⟨a,cap,rfl,hcap⟩:=nc hm (n:=len) rfl;have:h=mm:=by omega
   subst this;exact⟨_,run a _ cap (by omega) (by omega) (by omega) hcap,by simpa using VR.nil⟩
  ·cases hr
 ·cases hr
theorem GD {t:TypeId} {l h len:Nat} {m r:MV} {v:Value} {vlo vhi:Option Value} {lo hi:Option MV} (ht:P.underlying t=some .string)
  (hlo:iL 0 lo=some l) (hlen:rc m=some len) (hhi:iL len hi=some h) (rlo:OR w O B lo vlo) (rhi:OR w O B hi vhi) (hm:VR w O B m v) (hr:AX l h m=some r) :
  ∃ z,(Instr.sliceAt t v vlo vhi none).run P w = .ok z w∧VR w O B r z:=by
 unfold AX at hr
 split at hr
 ·rename_i s
  split at hr
  ·rename_i hc
   obtain⟨h1,h2⟩:=hc
   cases hr;simp only[rc,Option.some.injEq] at hlen;subst hlen
   cases hm.str_inv;have e:(ByteArray.mk s.toArray).size=s.length:=by simp [ByteArray.size]
   have hb:=pj (P:=P) (w:=w) (O:=O) (B:=B) (cap:=s.length) false hlo hhi rlo rhi h1 h2
   have hx:(ByteArray.mk s.toArray).extract l h=⟨((s.take h).drop l).toArray⟩:=by
    rw[ByteArray.extract_mk,TG]
   exact⟨.string ⟨((s.take h).drop l).toArray⟩,by simp [Instr.sliceAt,Instr.slice,run_underlying ht,e,hb,hx],.dat .str⟩
  ·cases hr
 ·cases hr
theorem BP (off:Nat):∀ (l:List Value) (k:Nat) (cs:Array Value),off+k+l.length≤cs.size →
  (l.zipIdx k).foldl (fun (cs:Array Value) (p:Value × Nat)=>cs.setIfInBounds (off+p.2) p.1) cs=(cs.toList.take (off+k)++l++cs.toList.drop (off+k+l.length)).toArray
 | [],k,cs,_=>by simp
 | a::l,k,cs,h=>by
  rw[List.zipIdx_cons,List.foldl_cons];have h':off+k<cs.size:=by simp at h;omega
  rw[BP off l (k+1) (cs.setIfInBounds (off+k) a) (by simp at h ⊢;omega)];apply Array.ext';simp only[Array.toList_setIfInBounds];have:=list_seg_step cs.toList (off+k) a l (by simp at h ⊢;omega)
  simpa [Tu] using this
theorem pX {place:Nat→Option (Nat × Nat)} {ρ:Operand→Value} {tm:Nat→MV} (hρ:∀ x y,bo x=some y→VR w O B (ev tm y) (ρ x)) :
  ∀ (ps:List (Nat × Operand)) (qs:List (Nat × Nat × Opd)) (cs r:List MV) (vs:Array Value),iV place ps=some qs→RL w O B cs vs.toList→fv (ev tm) cs qs=some r →
   ∃ vs':Array Value,Instr.fill place vs (ps.map fun p=>(p.1,ρ p.2))=some vs'∧RL w O B r vs'.toList
 | [],qs,cs,r,vs,hp,hrl,h=>by
  simp [iV] at hp;subst hp;simp [fv] at h;subst h;exact⟨vs,rfl,hrl⟩
 | (i,x)::ps,qs,cs,r,vs,hp,hrl,h=>by
  simp only[iV,Tg,Th,Ti,Tj,Option.some.injEq] at hp;obtain⟨q,hq,qs',hqs,rfl⟩:=hp;obtain⟨⟨o,s⟩,hpl,y,hy,rfl⟩:=hq;simp only[fv] at h
  split at h
  ·rename_i hc
   obtain⟨h0,h1,h2⟩:=hc;have hvr:=hρ x y hy;have hund:ev tm y ≠ .undef:=fun e=>by rw[e] at h0;simp [MV.known] at h0
   ·have hrc:=RL.of_cells hvr hund
    have hsz:(ρ x).cells.size=s:=by have:=hrc.1;simp at this;omega
    have hfit:o+s≤vs.size:=by have:=hrl.1;simp at this;omega
    have hfold:=BP o (ρ x).cells.toList 0 vs (by simp [hsz];exact hfit);simp only[TH,Array.length_toList] at hfold;have hspl:=hrl.splice hrc o;obtain⟨vs',hf,hr'⟩:=pX hρ ps qs' _ r ((vs.toList.take o++(ρ x).cells.toList++vs.toList.drop (o+(ρ x).cells.size)).toArray) hqs (by simpa using hspl) h;refine⟨vs',?_,hr'⟩;simp only[List.map_cons,Instr.fill,hpl];rw[if_neg (by simp [hsz];omega)]
    have hz:(ρ x).cells.zipIdx.foldl (fun cs (p:Value × Nat)=>cs.setIfInBounds (o+p.2) p.1) vs=(vs.toList.take o++(ρ x).cells.toList++vs.toList.drop (o+(ρ x).cells.size)).toArray:=by
     rw[←Array.foldl_toList,Array.toList_zipIdx];exact hfold
    rw[←hf]
    congr 1
  ·cases h
end
section
variable {P:Program} {A:Nat→Prop} {w:World} {B:Lay} {mem:Mem}
theorem jp {O:Nat→Prop} {t:TypeId} {z:List MV} (h:gR P t=some z):∃ i zv,P.info? t=some i∧i.zero=some zv∧RL w O B z zv.cells.toList:=by
 simp only[gR,Tj] at h;obtain⟨zv,⟨i,hi,hz⟩,hm⟩:=h;obtain⟨h1,h2⟩:=di hm;exact⟨i,zv,hi,hz,by simp [h1],fun j m v hmj hvj=>tU (h2 j v m hvj hmj)⟩
theorem jy {t:TypeId} {i:TypeInfo} {zv:Value} (hi:P.info? t=some i) (hz:i.zero=some zv):(zeroValue t).run P w = .ok zv w:=by
 simp [zeroValue,typeInfo,hi,hz]
theorem wg {t:TypeId} {i:TypeInfo} {n:Nat} (hi:P.info? t=some i) (hs:cL P t=some n):i.size=n:=by
 simpa [cL,hi] using hs
theorem tV {t:TypeId} {i:TypeInfo} {n:Nat} (hi:P.info? t=some i) (hs:rg P t=some n):i.bytes=n:=by
 simpa [rg,hi] using hs
theorem rW {z:Array Value} (h0:0<z.size):∀ n,((Array.range (n*z.size)).map (z[· % z.size]!)).toList=(Tf n z.toList).flatten
 | 0=>by simp
 | n+1=>by
  have ih:=rW h0 n;apply List.ext_getElem?;intro i
  have e1:∀ m i,((Array.range (m*z.size)).map (z[· % z.size]!)).toList[i]?=if i<m*z.size then some (z[i % z.size]!) else none:=by
   intro m i;rw[Array.getElem?_toList,Array.getElem?_map]
   by_cases hi:i<m*z.size
   ·rw[if_pos hi,Array.getElem?_range]
    simp [hi]
   ·rw[if_neg hi,Array.getElem?_range]
    simp [hi]
  rw[e1,List.replicate_succ',List.flatten_append,Ts,←ih];have el:((Array.range (n*z.size)).map (z[· % z.size]!)).toList.length=n*z.size:=by simp
  rw[el];have hmul:(n+1)*z.size=n*z.size+z.size:=by rw[Ta,Tb]
  by_cases hi:i<n*z.size
  ·rw[if_pos hi,if_pos (by omega),e1,if_pos hi]
  ·rw[if_neg hi]
   by_cases hi2:i<(n+1)*z.size
   ·rw[if_pos hi2]
    have hlt:i-n*z.size<z.size:=by omega
    have hmod:i % z.size=i-n*z.size:=by
     have e:i=(i-n*z.size)+z.size*n:=by have:=Nat.mul_comm n z.size;omega
     have e2:((i-n*z.size)+z.size*n) % z.size=i-n*z.size:=by rw[Nat.add_mul_mod_self_left,Nat.mod_eq_of_lt hlt]
     rwa [←e] at e2
    rw[hmod];simp [hlt]
   ·rw[if_neg hi2]
    symm
    rw[Tx];simp;omega
theorem RL.replicate {O:Nat→Prop} {z:List MV} {zs:List Value} (h:RL w O B z zs):∀ n,RL w O B (Tf n z).flatten (Tf n zs).flatten
 | 0=>by simpa using RL.nil
 | n+1=>by
  rw[TI,S8,TI,S8];exact h.append (RL.replicate h n)
theorem RL.keep {cs:List MV} {vs:List Value} {w':World} {B':Lay} (t:Trans A w B w' B') (h:RL w (OA A B) B cs vs):RL w' (OA A B') B' cs vs :=
 ⟨h.1,fun i m v h1 h2=>(h.2 i m v h1 h2).keep t⟩
theorem nI {cs:List MV} (hmr:MemRel A w B mem) (w1:World) (f:Fr (fun _=>False) w w1) (hz:w1.heap.size=w.heap.size) (k:Key) (vs:Array Value) (T:TypeId) (hl:cs.length≤vs.size)
  (hrl:RL w (OA A B) B cs (vs.toList.take cs.length)):StepOK A w B (w1.alloc (.cells vs T)) (fD B k ⟨aD mem k,some w.heap.size,vs.size⟩) (az mem k (aD mem k) cs) :=
 StepOK.alloc hmr w1 f hz k vs T hl fun i m hm=>by
  obtain⟨v,hv,hr⟩:=hrl.get hm;rw[Tt] at hv
  split at hv
  ·exact⟨v,by simpa using hv,hr⟩
  ·cases hv
theorem GC {t:TypeId} {z:List MV} (k:Key) (hmr:MemRel A w B mem) (hz:gR P t=some z) :
  ∃ v w' B',(Instr.alloc t true (.tuple #[])).run P w = .ok v w'∧StepOK A w B w' B' (az mem k (aD mem k) z)∧VR w' (OA A B') B' (.ptr k (aD mem k) 0) v:=by
 obtain⟨i,zv,hi,hzv,hrl⟩:=jp (P:=P) (w:=w) (B:=B) (O:=OA A B) hz;have hl:z.length=zv.cells.size:=by have:=hrl.1;simp at this;omega
 refine⟨.pointer (some ⟨w.heap.size,0,none⟩),w.alloc (.cells zv.cells t),_,?_,nI hmr w (Fr.refl _ _) rfl k zv.cells t (by omega) (by rw[TB (by simp;omega)];exact hrl),?_⟩
 ·simp [Instr.alloc,jy hi hzv,newVar,newRow]
 ·exact .ptr (aZ _ _ _) (Tc _) ⟨_,rfl,fun _=>rfl⟩
theorem K8 {t:TypeId} {m:MV} {u:Value} (k:Key) (hmr:MemRel A w B mem) (hu:VR w (OA A B) B m u) (hk:m.known=true) :
  ∃ v w' B',(Instr.box t u).run P w = .ok v w'∧StepOK A w B w' B' (az mem k (aD mem k) m.cells)∧VR w' (OA A B') B' (.ptr k (aD mem k) 0) v:=by
 have hrl:=RL.of_cells hu (fun e=>by rw[e] at hk;simp [MV.known] at hk);have hl:m.cells.length=u.cells.size:=by have:=hrl.1;simp at this;omega
 refine⟨.pointer (some ⟨w.heap.size,0,none⟩),w.alloc (.cells u.cells t),_,?_,nI hmr w (Fr.refl _ _) rfl k u.cells t (by omega) (by rw[TB (by simp;omega)];exact hrl),?_⟩
 ·simp [Instr.box,newVar,newRow]
 ·exact .ptr (aZ _ _ _) (Tc _) ⟨_,rfl,fun _=>rfl⟩
theorem Ik {t e:TypeId} {z:List MV} {bytes n c:Nat} {m1 m2:MV} {u1 u2:Value} {r:MV} {ef:Option (Key × Nat × List MV)} (k:Key) (hmr:MemRel A w B mem) (ht:P.underlying t=some (.slice e)) (hz:gR P e=some z) (hs:cL P e=some z.length)
  (hb:rg P e=some bytes) (h1:idx m1=some n) (h2:idx m2=some c) (r1:VR w (OA A B) B m1 u1) (r2:VR w (OA A B) B m2 u2) (h0:0<z.length) (h:wz k (aD mem k) z bytes n c=some (r,ef)) :
  ∃ v w' B',(Instr.makeSlice t u1 u2).run P w = .ok v w'∧StepOK A w B w' B' (ib mem ef)∧VR w' (OA A B') B' r v:=by
 unfold wz at h
 split at h
 ·rename_i hc
  obtain⟨rfl,hbytes,hmax⟩:=hc
  cases h;obtain⟨k1,rfl⟩:=ow h1 r1;obtain⟨k2,rfl⟩:=ow h2 r2;obtain⟨i,zv,hi,hzv,hrl⟩:=jp (P:=P) (w:=w) (B:=B) (O:=OA A B) hz;have hl:z.length=zv.cells.size:=by have:=hrl.1;simp at this;omega
  have hsz:=wg hi hs;have hby:=tV hi hb
  have hrun:=run_make (P:=P) w t e i zv ht hi hzv k1 k2 (n:Int) (n:Int) (by omega) (by omega) (by
   have:((i.bytes*n:Nat):Int)≤281474976710656:=by rw[hby];omega
   rwa [Int.natCast_mul] at this) (by unfold maxLen at hmax;omega)
  simp only[Int.toNat_natCast] at hrun
  have hcells:(madeCells zv.cells (n*i.size)).toList=(Tf n zv.cells.toList).flatten:=by
   rw[hsz,hl];exact rW (by omega) n
  have hsize:(madeCells zv.cells (n*i.size)).size=n*z.length:=by rw[size_madeCells,hsz]
  have hrep:=hrl.replicate (n:=n)
  have hlen:(Tf n z).flatten.length=n*z.length:=by
   have:=hrep.1;rw[←this,←hcells,Array.length_toList,hsize]
  refine⟨_,_,_,hrun,nI hmr w (Fr.refl _ _) rfl k _ e (by rw[hsize,hlen];exact Tc _) ?_,?_⟩
  ·rw[TB (by rw[Array.length_toList,hsize,hlen];exact Tc _),hcells]
   exact hrep
  ·refine .ref (aZ _ _ _) (Tc _) ⟨_,n,rfl,Tc _,hmax,.inr ⟨_,rfl,fun _=>⟨rfl,?_⟩⟩⟩
   simp only[Tv];rw[hsize];exact Tc _
 ·cases h
theorem H7 (hmr:MemRel A w B mem) {k:Key} {g:Nat} {cs new:List MV} {e:Bk} {b:Nat} {vs:Array Value} {T:TypeId} {vals:List Value} {off:Nat} (hk:mem k=some (g,cs)) (he:B k=some e) (hb:e.blk=some b)
  (hh:w.heap[b]?=some (.cells vs T (0,0))) (hsz:vs.size=e.size) (hl:cs.length≤vs.size) (hrl:RL w (OA A B) B cs (vs.toList.take cs.length)) (hge:e.g=g) (hoff:off+new.length≤cs.length) (hnew:RL w (OA A B) B new vals) :
  StepOK A w B (w.setRow b (vs.toList.take off++vals++vs.toList.drop (off+vals.length)).toArray) B (az mem k g (splice cs off new)):=by
 have hlv:vals.length=new.length:=hnew.1
 have hspl:RL w (OA A B) B (splice cs off new) ((vs.toList.take off++vals++vs.toList.drop (off+vals.length)).take cs.length):=by
  have h1:=hrl.splice hnew off
  have e1:(vs.toList.take cs.length).take off++vals++(vs.toList.take cs.length).drop (off+vals.length)=(vs.toList.take off++vals++vs.toList.drop (off+vals.length)).take cs.length:=by
   have hvl:vs.toList.length=vs.size:=Array.length_toList;rw[List.take_take,TJ (by omega),TG,TA,S9,TK,hvl,TJ (a:=off) (b:=vs.size) (by omega)];rw[TB (l:=vs.toList.take off++vals) (by rw[S9,TK,hvl];omega)]
  rwa [e1] at h1
 have hsl:(splice cs off new).length=cs.length:=by unfold splice;simp;omega
 have heq:fD B k e=B:=by
  funext j
  unfold fD
  split
  ·rename_i hj;rw[hj,he]
  ·rfl
 have f:Fr (fun b=>∃ e,B k=some e∧e.blk=some b) w (w.setRow b (vs.toList.take off++vals++vs.toList.drop (off+vals.length)).toArray):=by
  refine⟨rfl,rfl,rfl,by simp,fun j hj ho=>?_⟩
  exact setRow_other w b j _ (fun hjb=>ho ⟨e,he,by rw[hb,hjb]⟩)
 have:=StepOK.change (k:=k) (e':=e) (cs:=splice cs off new) hmr f (fun e2 he2 => .inl (by rw[he] at he2;exact Option.some.inj he2)) (fun b2 hb2 => .inr ⟨e,he,hb2⟩) (fun hn=>by rw[hb] at hn;cases hn) (fun b2 hb2=>by
  rw[hb] at hb2
  cases hb2;refine⟨_,T,setRow_heap w b vs _ T (0,0) hh,by simp;omega,by rw[hsl];simp;omega,fun i m hm=>?_⟩
  obtain⟨v,hv,hr⟩:=hspl.get hm;rw[Tt] at hv
  split at hv
  ·exact⟨v,by simpa using hv,hr⟩
  ·cases hv)
 rw[heq,hge] at this;exact this
theorem FL {t:TypeId} {n:Nat} {m1 m2:MV} {u1 u2:Value} {r:MV} {ef:Option (Key × Nat × List MV)} (hmr:MemRel A w B mem) (hs:cL P t=some n) (r1:VR w (OA A B) B m1 u1) (r2:VR w (OA A B) B m2 u2)
  (h:lM mem n m1 m2.cells=some (r,ef)):∃ w',(Instr.storeAt t u1 u2).run P w = .ok () w'∧StepOK A w B w' B (ib mem ef)∧r = .no:=by
 cases m1 with
 | ptr k g off =>
  simp only[lM] at h;unfold uY at h
  split at h
  ·rename_i g' cs hk
   split at h
   ·rename_i hc
    obtain⟨rfl,h1,h2,h3⟩:=hc
    cases h;obtain⟨e,he,hge,hn,hb⟩:=hmr.at_ hk
    cases r1 with
    | ptr he' hg' hp =>
     rw[he] at he'
     cases he'
     obtain⟨b,rfl,hbb⟩:=hp;have hbb:=hbb hge.symm;obtain⟨vs,T,hh,hsz,hl,hrl⟩:=hb b hbb;have hk2:m2 ≠ .undef:=fun e=>by rw[e] at h3;simp [MV.cells,MV.one] at h3
     have hrc:=RL.of_cells r2 hk2
     have h1c:∀ v∈u2.cells.toList,v.oneCell'=true:=by
      intro v hv;obtain⟨i,hi,hvi⟩:=List.getElem_of_mem hv;have hi':i<m2.cells.length:=by rw[←hrc.1];exact hi
      have:=hrc.2 i _ _ (Tq hi') (Tq hi);rw[hvi] at this;exact Em this (List.all_eq_true.1 h3 _ (TD hi'))
     have hsz2:u2.cells.size=n:=by have:=hrc.1;simp at this;omega
     have hst:=run_storeCells_at P b off T u2.cells.toList 0 vs w hh (by simp;omega) h1c;simp only[TH] at hst;refine⟨_,?_,H7 hmr hk he hbb hh hsz hl hrl hge (by omega) hrc,rfl⟩;have hne:¬ (u2.cells.size≠n):=by omega
     simp only[Instr.storeAt,Instr.sureAddr,storeVar,Sem.run_bind,Sem.run_pure,Result.andThen_ok,eI hs];rw[if_neg hne];exact hst
   ·cases h
  ·cases h
 | _=>simp [lM] at h
end
end Go.Mini
