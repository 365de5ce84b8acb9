/- A part of the proof. -/
import Derived.Calls
import Derived.Still
import Derived.Below
import Derived.Laws.World
import Derived.Laws.Sem
import Derived.Laws.Entries
import Derived.Laws.Rows
import GoSem.ClaimData
import Derived.Laws.CopyRow
import Derived.Laws.MakeOwn
import Derived.Laws.Append
import Derived.Laws.AppendOwn
import Derived.Laws.Strings
import Derived.Laws.Strings2
import Derived.Laws.StructEq
import Derived.Laws.Slices
import Derived.Laws.Cells
import Derived.Attr
set_option linter.unusedSimpArgs false
set_option linter.unusedVariables false
set_option maxRecDepth 100000
set_option maxHeartbeats 4000000
noncomputable section
open Bool renaming and_eq_true->eX,false_eq_true->kc,or_eq_true->Jw
open List renaming all_eq_true->h2,contains_iff_mem->XY,drop_drop->B9,drop_eq_getElem_cons->iI,drop_eq_nil_of_le->s4,drop_set_of_lt->qO,drop_take->WW,eq_nil_of_length_eq_zero->mL,ext_getElem?->pU,flatten_cons->j8,foldl_cons->WY,getD_eq_getElem?_getD->fP,getElem?_append->BS,getElem?_append_left->uA,getElem?_append_right->WR,getElem?_cons_zero->Fz,getElem?_drop->ll,getElem?_eq_getElem->bL,getElem?_eq_none->nh,getElem?_eq_some_iff->ef,getElem?_map->bb,getElem?_range->s5,getElem?_set_ne->X4,getElem?_set_self->X3,getElem?_take->vL,getElem?_take_of_lt->nq,getElem?_toArray->Xe,getElem_mem->s7,getElem_of_mem->W4,length->o,length_append->fE,length_cons->jN,length_map->af,length_set->kA,length_take->gO,mapM_cons->lT,map_congr_left->oV,map_map->lX,mem_append->iK,mem_cons_self->gP,mem_flatMap->zC,mem_of_getElem?->eN,mem_of_mem_take->B0,mem_zipIdx_iff_getElem?->XU,range->hR,replicate->eL,replicate_succ->qF,take_append->zs,take_of_length_le->du
open Nat renaming add_assoc->nZ,add_comm->xq,add_mul->nS,add_zero->vQ,eq_or_lt_of_le->Je,eq_zero_or_pos->jo,le_mul_of_pos_right->Fo,le_refl->cA,le_trans->eG,lt_asymm->XX,lt_of_lt_of_le->ze,lt_or_ge->h1,min_eq_left->mi,mul_le_mul_right->rS,one_mul->sV,sub_self->xA,succ_mul->qD,testBit_or->XP,zero_add->ku,zero_le->fY
open Option renaming bind_eq_bind->gF,bind_eq_some_iff->dQ,getD_some->XR,isSome_iff_exists->Xh,map_eq_some_iff->dI,map_none->Xx,map_some->rV,pure_def->gv
open Option.some renaming inj->ln,injEq->cz
open Prod.mk renaming injEq->eU
namespace Go.Mini
theorem bC {α:Sort _}{a:α}:a=a:=_root_.id rfl
theorem aj {c:Prop}{h:Decidable c}(E:c){α:Sort _}{t e:α}:ite c t e=t:=if_pos E
theorem aq {c:Prop}{h:Decidable c}(E:¬c){α:Sort _}{t e:α}:ite c t e=e:=if_neg E
theorem hc {p:Prop}[inst:Decidable p](h:p):decide p=true:=decide_eq_true h
theorem gr {p:Prop}[i:Decidable p](h:¬p):decide p=false:=decide_eq_false h
theorem dn {p:Prop}[inst:Decidable p](h:p:=by omega):decide p=true:=decide_eq_true h
theorem cY {p:Prop}[i:Decidable p](h:¬p:=by omega):decide p=false:=decide_eq_false h
open Go
abbrev Key:=Nat
inductive Data where
 |int (k:IntKind) (n:Int)
 |bool (b:Bool)
 |str (s:List UInt8)
 |X (es:List (List Data))
 |ptr (cs:List Data)
 |vD
 |fn (f:FuncId) (en:List Data)
 |um
 |agg (cs:List Data)
 |cQ (vs:List Data)
 deriving Inhabited
inductive O where
 |J (d:Data)
 |nil
 |ref (k:Key) (g sz off len:Nat)
 |ptr (k:Key) (g off:Nat)
 |e5 (f:FuncId) (en:List O)
 |agg (cs:List O)
 |cQ (vs:List O)
 |no
 |undef
 deriving Inhabited
inductive Den (w:World) (aS:Nat->Prop):Data->Value->Prop
 |int {k:IntKind} {n:Int}:Den w aS (.int k n) (.int k n)
 |bool {b:Bool}:Den w aS (.bool b) (.bool b)
 |str {s:List UInt8}:Den w aS (.str s) (.string ⟨s.toArray⟩)
 |j7 {a:Option Addr} {c:Nat}:Den w aS (.X []) (.slice a 0 c)
 |X {es:List (List Data)} {b off c sz:Nat} (val:Nat->Value) (ax:(o es)<=c) (hm:(o es)<=maxLen) (ah:b<w.heap.size) (fo:¬ aS b) (eu:∀e∈es,o e=sz)
   (E:∀i,i<o es*sz->w.cell? ⟨b,off+i,none⟩=some (val i)) (ae:∀i d,es.flatten[i]?=some d->Den w aS d (val i)) :
   Den w aS (.X es) (.slice (some ⟨b,off,none⟩) (o es) c)
 |ptr {cs:List Data} {b off:Nat} (val:Nat->Value) (ah:b<w.heap.size) (fo:¬ aS b)
   (E:∀i,i<(o cs)->w.cell? ⟨b,off+i,none⟩=some (val i)) (ae:∀i d,cs[i]?=some d->Den w aS d (val i)) :
   Den w aS (.ptr cs) (.pointer (some ⟨b,off,none⟩))
 |vD:Den w aS .vD (.pointer none)
 |fn {f:FuncId} {en:List Data} {vs:List Value} (ax:(o vs)=o en) (ae:∀(i:Nat) (d:Data) (v:Value),en[i]?=some d->vs[i]?=some v->Den w aS d v) :
   Den w aS (.fn f en) (.func (.func f) #[] vs.toArray)
 |um:Den w aS .um .nilFunc
 |agg {cs:List Data} {vs:List Value} (ax:(o vs)=o cs) (ae:∀(i:Nat) (d:Data) (v:Value),cs[i]?=some d->vs[i]?=some v->Den w aS d v) :
   Den w aS (.agg cs) (.agg vs.toArray)
 |cQ {cs:List Data} {vs:List Value} (ax:(o vs)=o cs) (ae:∀(i:Nat) (d:Data) (v:Value),cs[i]?=some d->vs[i]?=some v->Den w aS d v) :
   Den w aS (.cQ cs) (.tuple vs.toArray)
theorem IX {es:List (List Data)}{sz:Nat}(h:∀e∈es,o e=sz):(o es.flatten)=o es*sz:=by
 induction es with
 |nil=>simp
 |cons e r aA =>
  have D:=h e (by simp);have G:=aA (λx I=>h x (by simp[I]));rw[j8,fE,D,G,jN,nS,sV,xq]
theorem Den.oI {w aI:World}{aS kr:Nat->Prop}(aa:w.heap.size<=aI.heap.size)(h:∀b,b<w.heap.size->¬ aS b->aI.heap[b]?=w.heap[b]?/\¬ kr b){d:Data}{v:Value}(ae:Den w aS d v):Den aI kr d v:=by
 induction ae with
 |int=>exact .int
 |bool=>exact .bool
 |str=>exact .str
 |j7=>exact .j7
 | @X es b off c sz val ax hm ah fo eu E ae aA =>
  obtain⟨D,G⟩:=h b ah fo;exact .X val ax hm (by omega) G eu (λi Q=>(World.cell?_of_block (a:=⟨b,off+i,none⟩) D).trans (E i Q)) aA
 |vD=>exact .vD
 |um=>exact .um
 | @ptr cs b off val ah fo E ae aA =>
  obtain⟨D,G⟩:=h b ah fo;exact .ptr val (by omega) G (λi Q=>(World.cell?_of_block (a:=⟨b,off+i,none⟩) D).trans (E i Q)) aA
 |fn ax ae aA=>exact .fn ax aA
 |agg ax ae aA=>exact .agg ax aA
 |cQ ax ae aA=>exact .cQ ax aA
structure ks where
 g:Nat
 dc:Option Nat
 size:Nat
abbrev Lay:=Key->Option ks
def pJ (B:Lay)(b:Nat):Prop:=∃k e,B k=some e/\e.dc=some b
def BB (e:ks)(g sz off len:Nat)(v:Value):Prop :=
 ∃a cap,v=.slice a len cap/\len<=cap/\cap<=maxLen/\(cap=0\/∃b,a=some ⟨b,off,none⟩/\(g=e.g->e.dc=some b/\off+cap*sz<=e.size))
def IY (e:ks)(g off:Nat)(v:Value):Prop:=∃b,v=.pointer (some ⟨b,off,none⟩)/\(g=e.g->e.dc=some b)
theorem BB.EH {e e':ks}{g sz off len:Nat}{v:Value}(h:BB e g sz off len v)(ax:g<e'.g):BB e' g sz off len v:=by
 obtain⟨a,cap,D,G,ag,aR⟩:=h;refine⟨a,cap,D,G,ag,aR.imp id ?_⟩;rintro⟨b,bs,_⟩;exact⟨b,bs,λh=>by omega⟩
theorem IY.EH {e e':ks}{g off:Nat}{v:Value}(h:IY e g off v)(ax:g<e'.g):IY e' g off v:=by
 obtain⟨b,D,_⟩:=h;exact⟨b,D,λh=>by omega⟩
inductive bA (w:World) (aS:Nat->Prop) (B:Lay):O->Value->Prop
 |J {d:Data} {v:Value} (h:Den w aS d v):bA w aS B (.J d) v
 |nil {a:Option Addr}:bA w aS B .nil (.slice a 0 0)
 |ref {k:Key} {g sz off len:Nat} {e:ks} {v:Value} (he:B k=some e) (bw:g<=e.g) (ad:BB e g sz off len v):bA w aS B (.ref k g sz off len) v
 |ptr {k:Key} {g off:Nat} {e:ks} {v:Value} (he:B k=some e) (bw:g<=e.g) (ad:IY e g off v):bA w aS B (.ptr k g off) v
 |e5 {f:FuncId} {en:List O} {vs:List Value} (ax:(o vs)=o en) (ae:∀(i:Nat) (d:O) (v:Value),en[i]?=some d->vs[i]?=some v->bA w aS B d v) :
   bA w aS B (.e5 f en) (.func (.func f) #[] vs.toArray)
 |agg {cs:List O} {vs:List Value} (ax:(o vs)=o cs) (ae:∀(i:Nat) (d:O) (v:Value),cs[i]?=some d->vs[i]?=some v->bA w aS B d v) :
   bA w aS B (.agg cs) (.agg vs.toArray)
 |cQ {cs:List O} {vs:List Value} (ax:(o vs)=o cs) (ae:∀(i:Nat) (d:O) (v:Value),cs[i]?=some d->vs[i]?=some v->bA w aS B d v) :
   bA w aS B (.cQ cs) (.tuple vs.toArray)
 |no:bA w aS B .no undef
 |undef {v:Value}:bA w aS B .undef v
def ca (A:Nat->Prop)(B:Lay)(b:Nat):Prop:=pJ B b\/A b
structure Trans (A:Nat->Prop) (w:World) (B:Lay) (aI:World) (bB:Lay):Prop where
 size:w.heap.size<=aI.heap.size
 EI:∀b,b<w.heap.size->¬ ca A B b->aI.heap[b]?=w.heap[b]?/\¬ pJ bB b
 key:∀k e,B k=some e->∃e',bB k=some e'/\(e'=e\/e.g<e'.g)
theorem Trans.refl (A:Nat->Prop)(w:World)(B:Lay):Trans A w B w B :=
 ⟨cA _,λ_ _ h=>⟨rfl,λbM=>h (.inl bM)⟩,λ_ e he=>⟨e,he,.inl rfl⟩⟩
theorem Trans.trans {A:Nat->Prop}{w w1 lg:World}{B xr zd:Lay}(h:Trans A w B w1 xr)(cu:Trans A w1 xr lg zd):Trans A w B lg zd:=by
 refine⟨eG h.size cu.size,λb ah bM=>?_,λk e he=>?_⟩
 ·obtain⟨D,G⟩:=h.EI b ah bM;obtain⟨ag,aR⟩:=cu.EI b (ze ah h.size) (λI=>I.elim G λaM=>bM (.inr aM));exact⟨ag.trans D,aR⟩
 ·obtain⟨aw,af1,a6⟩:=h.key k e he;obtain⟨aB,eO,mJ⟩:=cu.key k aw af1;refine⟨aB,eO,?_⟩;rcases a6 with rfl|a6<;>rcases mJ with rfl|mJ
  ·exact .inl rfl
  ·exact .inr mJ
  ·exact .inr a6
  ·exact .inr (Nat.lt_trans a6 mJ)
theorem Den.trans {A:Nat->Prop}{w aI:World}{B bB:Lay}(t:Trans A w B aI bB){d:Data}{v:Value}(h:Den w (ca A B) d v):Den aI (ca A bB) d v :=
 h.oI t.size λb ah bM=>⟨(t.EI b ah bM).1,λI=>I.elim (t.EI b ah bM).2 λaM=>bM (.inr aM)⟩
theorem bA.oI {A:Nat->Prop}{w aI:World}{B bB:Lay}(t:Trans A w B aI bB){m:O}{v:Value}(h:bA w (ca A B) B m v):bA aI (ca A bB) bB m v:=by
 induction h with
 |J h=>exact .J (h.trans t)
 |nil=>exact .nil
 | @ref k g sz off len e v he bw ad =>
  obtain⟨e',fy,a6⟩:=t.key k e he;rcases a6 with rfl|a6
  ·exact .ref fy bw ad
  ·exact .ref fy (by omega) (ad.EH (by omega))
 | @ptr k g off e v he bw ad =>
  obtain⟨e',fy,a6⟩:=t.key k e he;rcases a6 with rfl|a6
  ·exact .ptr fy bw ad
  ·exact .ptr fy (by omega) (ad.EH (by omega))
 |e5 ax ae aA=>exact .e5 ax aA
 |agg ax ae aA=>exact .agg ax aA
 |cQ ax ae aA=>exact .cQ ax aA
 |no=>exact .no
 |undef=>exact .undef
abbrev Mem:=Key->Option (Nat×List O)
def emp:Mem:=λ_=>none
def bI (m:Mem)(k:Key)(g:Nat)(cs:List O):Mem:=λj=>if j=k then some (g,cs) else m j
def b7 (m:Mem)(k:Key):Nat:=match m k with
 |none=>0
 |some (g,_)=>g+1
structure eK (A:Nat->Prop) (w:World) (B:Lay) (mem:Mem):Prop where
 xt:∀k,mem k=none->B k=none
 inj:∀k k' e e' b,B k=some e->B k'=some e'->e.dc=some b->e'.dc=some b->k=k'
 sep:∀b,A b->¬ pJ B b
 lt:∀b,A b->b<w.heap.size
 dc:∀k g cs,mem k=some (g,cs)->∃e,B k=some e/\e.g=g/\(e.dc=none->cs=[]) /\
  ∀b,e.dc=some b->∃vs T,w.heap[b]?=some (.cells vs T (0,0))/\vs.size=e.size/\o cs<=vs.size /\
   ∀(i:Nat) (m:O),cs[i]?=some m->∃v,vs[i]?=some v/\bA w (ca A B) B m v
theorem eK.uo {A:Nat->Prop}{w:World}{B:Lay}{mem:Mem}(h:eK A w B mem){b:Nat}(ah:pJ B b):b<w.heap.size:=by
 obtain⟨k,e,he,ah⟩:=ah
 cases hm:mem k with
 |none=>rw[h.xt k hm] at he;cases he
 |some x =>
  obtain⟨g,cs⟩:=x;obtain⟨e',fy,_,_,a6⟩:=h.dc k g cs hm;rw[fy] at he
  cases he;obtain⟨vs,T,ad,_⟩:=a6 b ah;exact (Array.getElem?_eq_some_iff.1 ad).1
structure Fr (rH:Nat->Prop) (ee w:World):Prop where
 os:w.os=ee.os
 tape:w.tape=ee.tape
 output:w.output=ee.output
 size:ee.heap.size<=w.heap.size
 block:∀g,g<ee.heap.size->¬ rH g->w.heap[g]?=ee.heap[g]?
theorem Fr.refl (rH:Nat->Prop)(w:World):Fr rH w w:=⟨rfl,rfl,rfl,cA _,λ_ _ _=>rfl⟩
theorem Fr.drew {rH:Nat->Prop}{ee w:World}(h:Fr rH ee w)(n:Nat):Fr rH ee { w with drawn:=n }:=⟨h.os,h.tape,h.output,h.size,h.block⟩
theorem Fr.alloc {rH:Nat->Prop}{ee w:World}(h:Fr rH ee w)(ar:Obj):Fr rH ee (w.alloc ar) :=
 ⟨h.os,h.tape,h.output,by simp;have:=h.size;omega,λg bw fo=>(RowKit.Below.heap_alloc w ar g (by have:=h.size;omega)).trans (h.block g bw fo)⟩
theorem Fr.below {ee w:World}(h:Fr (λ_=>False) ee w):RowKit.Below ee.heap.size ee w:=⟨h.os,h.tape,h.output,h.size,λg bw=>h.block g bw id⟩
inductive bT where
 |t (s:Nat)
 |c (m:O)
 deriving Inhabited
inductive iF where
 |ck (x:bT)
 |pick (c a b:bT)
 |alloc (k:Key) (z:List O)
 |box (k:Key) (x:bT)
 |build (z:List O) (parts:List (Nat×Nat×bT))
 |fz (k:Key) (own:Bool) (z:List O) (sz len:Nat) (parts:List (Nat×Nat×bT))
 |load (n:Nat) (dE:Bool) (x:bT)
 |store (n:Nat) (x v:bT)
 |bin (op:BinOp) (x y:bT)
 |beq (neg:Bool) (x y:bT)
 |eqs (neg:Bool) (fX:List Nat) (x y:bT)
 |pK (neg:Bool) (x:bT)
 |un (op:UnOp) (x:bT)
 |conv (k:IntKind) (x:bT)
 |zf (x:bT)
 |mb (k:Key) (z:List O) (bytes:Nat) (len cap:bT)
 |c3 (off:Nat) (x:bT)
 |zg (off n:Nat) (dE:Bool) (x:bT)
 |jO (sz:Nat) (x i:bT)
 |zh (len sz:Nat) (x i:bT)
 |idxs (x i:bT)
 |m9 (sz:Nat) (x:bT) (ct Q iG:Option bT)
 |rI (len sz:Nat) (x:bT) (ct Q iG:Option bT)
 |zi (x:bT) (ct Q:Option bT)
 |ext (i:Nat) (x:bT)
 |len (x:bT)
 |lens (x:bT)
 |app (k:Key) (z:List O) (bytes:Nat) (s x:bT)
 |rJ (sz:Nat) (d x:bT)
 |jP (iG:Bool) (x y:bT)
 |call (f:FuncId) (args:List bT)
 |na (k:Key) (sz:Nat) (f:FuncId) (args:List bT)
 |iY (f:bT) (args:List bT)
 |lS (ct:Nat) (f:FuncId) (args:List bT)
 |qy (j:Nat) (f:FuncId) (args:List bT)
 |pL (j:Nat) (f:FuncId) (args:List bT)
 |pM (z:List O) (x:bT)
 |qz (f:FuncId) (en:List bT)
 |bad
 deriving Inhabited
structure cZ where
 dst:Option Nat
 g:Option (Nat×Bool)
 op:iF
 deriving Inhabited
inductive IZ where
 |nT (s:Nat) (k:Key) (sz:Nat)
 |WA (x:bT) (i:Nat) (k:Key) (sz:Nat)
 |freeze (s:Nat)
 |WB (x:bT) (i:Nat)
 |move
 |many
 deriving Inhabited
inductive e6 where
 |skip
 |ops (l:List cZ)
 |pN (l:List cZ) (c:List (List Nat))
 |seq (a b:e6)
 |cond (c:bT) (a b:e6)
 |block (id:Nat) (c:e6)
 |loop (c:e6)
 |exit (id:Nat)
 |ret
 |ghost (g:IZ) (c:e6)
 deriving Inhabited
inductive mc where
 |t (s:Nat)
 |cell (s n:Nat) (dE:Bool)
 deriving Inhabited
structure bP where
 n:Nat
 af2:Nat
 res:List mc
 body:e6
 deriving Inhabited
structure bz where
 tm:Nat->O
 mem:Mem
def hO (tm:Nat->O)(s:Nat)(m:O):Nat->O:=λt=>if t=s then m else tm t
def put (tm:Nat->O):Option Nat->O->Nat->O
 |some s,m=>hO tm s m
 |none,_=>tm
@[simp] theorem qA (tm:Nat->O)(s:Nat)(m:O)(t:Nat):hO tm s m t=if t=s then m else tm t:=rfl
def bf (tm:Nat->O):bT->O
 |.t s=>tm s
 |.c m=>m
def O.cells:O->List O
 |.agg cs=>cs
 |.J (.agg ds)=>ds.map .J
 |m=>[m]
def O.known:O->Bool
 |.undef=>false
 |_=>true
def O.one:O->Bool
 |.J (.agg _)=>false
 |.J (.cQ _)=>false
 |.J _=>true
 |.nil=>true
 |.ref ..=>true
 |.ptr ..=>true
 |.e5 ..=>true
 |_=>false
def oJ (dE:Bool)(cs:List O):Option O :=
 if dE=true then some (.agg cs) else match cs with
  | [m]=>some m
  |_=>none
def cut (cs:List O)(off n:Nat):Option (List O) :=
 if off+n<=(o cs) then some ((cs.drop off).take n) else none
def j9 (cs:List O)(off:Nat)(new:List O):List O:=cs.take off++new++cs.drop (off+o new)
def iZ (bf:bT->O)(cells:List O):List (Nat×Nat×bT)->Option (List O)
 | []=>some cells
 |(off,size,x)::rest =>
  if (bf x).known=true/\(bf x).cells.length=size/\off+size<=(o cells) then iZ bf (j9 cells off (bf x).cells) rest else none
def rK:O->Option Data
 |.J d=>some d
 |.nil=>some (.X [])
 |_=>none
def chunk (sz:Nat):Nat->List Data->List (List Data)
 |0,_=>[]
 |n+1,l=>l.take sz::chunk sz n (l.drop sz)
def I0 (op:BinOp)(k:IntKind)(a b:Int):Option Data :=
 match op with
 |.add=>some (.int k (k.wrap (a+b)))
 |.sub=>some (.int k (k.wrap (a-b)))
 |.mul=>some (.int k (k.wrap (a*b)))
 |.quo=>if b=0 then none else some (.int k (k.wrap (a.tdiv b)))
 |.rem=>if b=0 then none else some (.int k (a.tmod b))
 |.and=>some (.int k (bits .and k a b))
 |.or=>some (.int k (bits .or k a b))
 |.xor=>some (.int k (bits .xor k a b))
 |.andNot=>some (.int k (bits .andNot k a b))
 |.eql=>some (.bool (a==b))
 |.neq=>some (.bool (a != b))
 |.lss=>some (.bool (a<b))
 |.leq=>some (.bool (a<=b))
 |.gtr=>some (.bool (a>b))
 |.geq=>some (.bool (a>=b))
 |_=>none
def I1 (op:BinOp)(k:IntKind)(a b:Int):Option Data :=
 if b<0 then none else match op with
 |.shl=>some (.int k (k.wrap (a*2^(min b.toNat k.bits))))
 |.shr=>some (.int k (a.fdiv (2^(min b.toNat k.bits))))
 |_=>none
def I2 (op:BinOp)(a b:List UInt8):Option Data :=
 match op with
 |.add=>if (o a)+o b<=maxLen then some (.str (a++b)) else none
 |.eql=>some (.bool (a==b))
 |.neq=>some (.bool (!(a==b)))
 |.lss=>some (.bool (Op.bytesLess a b))
 |.leq=>some (.bool (Op.bytesLess a b||a==b))
 |.gtr=>some (.bool (!(Op.bytesLess a b||a==b)))
 |.geq=>some (.bool (!Op.bytesLess a b))
 |_=>none
def BC:BinOp->Bool
 |.shl=>true
 |.shr=>true
 |_=>false
def EJ (op:BinOp)(x y:O):Option O :=
 match x,y with
 |.J (.int k a),.J (.int k' b)=>if BC op=true then (I1 op k a b).map .J else if k=k' then (I0 op k a b).map .J else none
 |.J (.str a),.J (.str b)=>(I2 op a b).map .J
 |_,_=>none
def EK (neg:Bool):O->O->Option O
 |.J (.bool a),.J (.bool b)=>some (.J (.bool (neg != (a==b))))
 |_,_=>none
def I3:Nat->O->O->Option Bool
 |0,.J (.bool a),.J (.bool b)=>some (a==b)
 |1,.J (.int k a),.J (.int k' b)=>if k=k' then some (a==b) else none
 |2,.J (.str a),.J (.str b)=>some (a==b)
 |_,_,_=>none
def xu:List Nat->List O->List O->Option Bool
 | [],[],[]=>some true
 |k::fX,a::x,b::y=>match I3 k a b,xu fX x y with
  |some c,some d=>some (c&&d)
  |_,_=>none
 |_,_,_=>none
def EL (op:UnOp)(x:O):Option O :=
 match op,x with
 |.neg,.J (.int k n)=>some (.J (.int k (k.wrap (0-n))))
 |.xor,.J (.int k n)=>some (.J (.int k (bits .xor k (if k.signed then -1 else k.max) n)))
 |.not,.J (.bool b)=>some (.J (.bool !b))
 |_,_=>none
def idx:O->Option Nat
 |.J (.int _ n)=>if 0<=n then some n.toNat else none
 |_=>none
def ie (d:Nat):Option O->Option Nat
 |none=>some d
 |some x=>idx x
def rL:O->Option Nat
 |.J (.X es)=>some (o es)
 |.nil=>some 0
 |.ref _ _ _ _ n=>some n
 |_=>none
def nU (mem:Mem)(n:Nat)(dE:Bool):O->Option O
 |.ptr k g off=>match mem k with
  |some (c4,cs)=>if c4=g then (cut cs off n).bind (oJ dE) else none
  |none=>none
 |.J (.ptr ds)=>(cut (ds.map .J) 0 n).bind (oJ dE)
 |_=>none
def vE:O->Option Nat
 |.J (.str s)=>some (o s)
 |_=>none
def BD:O->O->O->Option O
 |.J (.bool t),a,b=>some (if t=true then a else b)
 |_,_,_=>none
def EM (z:List O)(sz len:Nat)(x:Option (List O)):Option O :=
 if (o z)=len*sz then (match x with
  |some cs=>(cs.mapM rK).map λds => .J (.X (chunk sz len ds))
  |none=>none) else none
def EN:O->Option (List O)
 |.agg cs=>some cs
 |.J (.agg ds)=>some (ds.map .J)
 |_=>none
def EO (neg:Bool)(fX:List Nat)(a b:O):Option O:=match EN a,EN b with
 |some x,some y=>(match xu fX x y with
  |some c=>some (.J (.bool (neg != c)))
  |none=>none)
 |_,_=>none
def EP (k:IntKind):O->Option O
 |.J (.int _ n)=>some (.J (.int k (k.wrap n)))
 |_=>none
def ER:O->Option O
 |.ptr k g off=>some (.ptr k g off)
 |.J (.ptr ds)=>some (.J (.ptr ds))
 |_=>none
def ES (off:Nat):O->Option O
 |.ptr k g ar=>some (.ptr k g (ar+off))
 |.J (.ptr ds)=>if off<=(o ds) then some (.J (.ptr (ds.drop off))) else none
 |_=>none
def ET (off n:Nat)(dE:Bool):O->Option O
 |.agg cs=>(cut cs off n).bind (oJ dE)
 |.J (.agg ds)=>(cut (ds.map .J) off n).bind (oJ dE)
 |_=>none
def EU (sz n:Nat):O->Option O
 |.ref k g dZ off len=>if n<len/\dZ=sz then some (.ptr k g (off+n*sz)) else none
 |.J (.X es)=>match es[n]? with
  |some e=>if (o e)=sz then some (.J (.ptr e)) else none
  |none=>none
 |_=>none
def EV (len sz n:Nat):O->Option O
 |.ptr k g off=>if n<len then some (.ptr k g (off+n*sz)) else none
 |.J (.ptr ds)=>if n<len/\n*sz<=(o ds) then some (.J (.ptr (ds.drop (n*sz)))) else none
 |_=>none
def EW (n:Nat):O->Option O
 |.J (.str s)=>(s[n]?).map λb => .J (.int .u8 b.toNat)
 |_=>none
def nV (sz:Nat)(es:List (List Data)):Bool:=es.all λe=>o e==sz
def EX (sz l h:Nat):O->Option O
 |.J (.X es)=>if l<=h/\h<=o es/\nV sz es=true then some (.J (.X ((es.take h).drop l))) else none
 |.nil=>if l=0/\h=0 then some .nil else none
 |.ref k g dZ off len=>if dZ=sz/\l<=h/\h<=len then some (.ref k g sz (off+l*sz) (h-l)) else none
 |_=>none
def EY (sz l h m:Nat):O->Option O
 |.J (.X es)=>if l<=h/\h<=m/\m<=o es/\nV sz es=true then (if m=l then some .nil else some (.J (.X ((es.take h).drop l)))) else none
 |.nil=>if l=0/\h=0/\m=0 then some .nil else none
 |.ref _ _ _ _ len=>if l<=h/\h<=m/\m<=len/\m=l then some .nil else none
 |_=>none
def EZ (l h:Nat):O->Option O
 |.J (.str s)=>if l<=h/\h<=(o s) then some (.J (.str ((s.take h).drop l))) else none
 |_=>none
def E0 (i:Nat):O->Option O
 |.cQ vs=>vs[i]?
 |.J (.cQ ds)=>(ds[i]?).map .J
 |_=>none
def E1 (iG:Bool):O->O->Option O
 |.J (.int k a),.J (.int k' b)=>if k=k' then some (.J (.int k (if iG=true then (if b>a then b else a) else (if b<a then b else a)))) else none
 |_,_=>none
def g5 (x:Option Nat)(f:Nat->Option O):Option O:=match x with
 |some n=>f n
 |none=>none
def jl (tm:Nat->O):iF->Option O
 |.ck x=>some (bf tm x)
 |.pick c a b=>BD (bf tm c) (bf tm a) (bf tm b)
 |.build z parts=>(iZ (bf tm) z parts).map .agg
 |.fz _ false z sz len parts=>EM z sz len (iZ (bf tm) z parts)
 |.bin op x y=>EJ op (bf tm x) (bf tm y)
 |.beq neg x y=>EK neg (bf tm x) (bf tm y)
 |.eqs neg fX x y=>EO neg fX (bf tm x) (bf tm y)
 |.un op x=>EL op (bf tm x)
 |.conv k x=>EP k (bf tm x)
 |.zf x=>ER (bf tm x)
 |.c3 off x=>ES off (bf tm x)
 |.zg off n dE x=>ET off n dE (bf tm x)
 |.jO sz x i=>g5 (idx (bf tm i)) λn=>EU sz n (bf tm x)
 |.zh len sz x i=>g5 (idx (bf tm i)) λn=>EV len sz n (bf tm x)
 |.idxs x i=>g5 (idx (bf tm i)) λn=>EW n (bf tm x)
 |.m9 sz x ct Q none=>g5 (ie 0 (ct.map (bf tm))) λl=>g5 (rL (bf tm x)) λlen=>g5 (ie len (Q.map (bf tm))) λh=>EX sz l h (bf tm x)
 |.m9 sz x ct (some Q) (some iG)=>g5 (ie 0 (ct.map (bf tm))) λl=>g5 (idx (bf tm Q)) λh=>g5 (idx (bf tm iG)) λm=>EY sz l h m (bf tm x)
 |.zi x ct Q=>g5 (ie 0 (ct.map (bf tm))) λl=>g5 (vE (bf tm x)) λlen=>g5 (ie len (Q.map (bf tm))) λh=>EZ l h (bf tm x)
 |.ext i x=>E0 i (bf tm x)
 |.len x=>g5 (rL (bf tm x)) λn=>some (.J (.int .i64 n))
 |.lens x=>g5 (vE (bf tm x)) λn=>some (.J (.int .i64 n))
 |.jP iG x y=>E1 iG (bf tm x) (bf tm y)
 |.qz f en=>some (.e5 f (en.map (bf tm)))
 |_=>none
def M6 (k:Key)(g off len sz l h:Nat):Option (Nat×List O)->Option O
 |some (c4,cs)=>if c4=g/\l<=h/\h<=len/\off+len*sz<=(o cs) then some (.ref k g sz (off+l*sz) (h-l)) else none
 |none=>none
def xv (mem:Mem)(len sz l h:Nat):O->Option O
 |.ptr k g off=>M6 k g off len sz l h (mem k)
 |_=>none
def nW (mem:Mem)(sz:Nat):O->Option (Nat×List O)
 |.J (.X es)=>if nV sz es=true then some (o es,es.flatten.map O.J) else none
 |.nil=>some (0,[])
 |.ref k g dZ off len=>if dZ=sz then (match mem k with
  |some (c4,cs)=>if c4=g then (cut cs off (len*sz)).map λcs=>(len,cs) else none
  |none=>none) else none
 |_=>none
abbrev Out:=Option (O×Option (Key×Nat×List O))
def hP (x:Option O):Out:=match x with
 |some m=>some (m,none)
 |none=>none
def BE (k:Key)(g:Nat)(z:List O)(sz len:Nat)(x:Option (List O)):Out :=
 if (o z)=len*sz then (match x with
  |some cs=>some (.ref k g sz 0 len,some (k,g,cs))
  |none=>none) else none
def BF (k:Key)(g:Nat)(z:List O)(bytes:Nat)(n c:Nat):Out :=
 if n=c/\bytes*n<=140737488355328/\n<=maxLen then some (.ref k g (o z) 0 n,some (k,g,(eL n z).flatten)) else none
def E3 (x y:Option Nat)(f:Nat->Nat->Out):Out:=match x,y with
 |some n,some m=>f n m
 |_,_=>none
def E6 (n:Nat)(k:Key)(g off:Nat)(v:List O)(x:Option (Nat×List O)):Out:=match x with
 |some (c4,cs)=>if c4=g/\o v=n/\off+n<=o cs/\v.all O.one=true then some (.no,some (k,g,j9 cs off v)) else none
 |none=>none
def uq (mem:Mem)(n:Nat):O->List O->Out
 |.ptr k g off,v=>E6 n k g off v (mem k)
 |_,_=>none
def pO (k:Key)(g:Nat)(sz len bytes:Nat)(m:Nat)(new:List O)(x:Option (Nat×List O)):Out:=match x with
 |some (c4,cs)=>if c4=g/\len*sz<=o cs/\(len+m)*bytes<=140737488355328/\len+m<=maxLen/\new.all O.one=true
   then some (.ref k (g+1) sz 0 (len+m),some (k,g+1,cs.take (len*sz)++new)) else none
 |none=>none
def oK (mem:Mem)(k:Key)(z:List O)(bytes:Nat):O->Option (Nat×List O)->Out
 |.nil,some (m,new)=>if m*bytes<=140737488355328/\m<=maxLen/\new.all O.one=true then some (.ref k (b7 mem k) (o z) 0 m,some (k,b7 mem k,new)) else none
 |.ref k' g dZ off len,some (m,new)=>if dZ=o z/\off=0 then pO k' g dZ len bytes m new (mem k') else none
 |_,_=>none
def I4 (k:Key)(g sz off len:Nat)(m:Nat)(new:List O)(x:Option (Nat×List O)):Out:=match x with
 |some (c4,cs)=>if c4=g/\off+len*sz<=o cs/\new.all O.one=true then some (.J (.int .i64 ((min m len:Nat):Int)),some (k,g,j9 cs off (new.take (min m len*sz)))) else none
 |none=>none
def sW (mem:Mem)(sz:Nat):O->Option (Nat×List O)->Out
 |.ref k g dZ off len,some (m,new)=>if dZ=sz then I4 k g sz off len m new (mem k) else none
 |_,_=>none
def I5 (z:List O)(k:Key)(g off len:Nat)(x:Option (Nat×List O)):Out:=match x with
 |some (c4,cs)=>if c4=g/\off+len*o z<=o cs/\z.all O.one=true then some (.cQ [],some (k,g,j9 cs off (eL len z).flatten)) else none
 |none=>none
def ur (mem:Mem)(z:List O):O->Out
 |.ref k g sz off len=>if sz=(o z) then I5 z k g off len (mem k) else none
 |_=>none
def cl (mem:Mem)(tm:Nat->O):iF->Out
 |.alloc k z=>some (.ptr k (b7 mem k) 0,some (k,b7 mem k,z))
 |.box k x=>if (bf tm x).known=true then some (.ptr k (b7 mem k) 0,some (k,b7 mem k,(bf tm x).cells)) else none
 |.fz k true z sz len parts=>BE k (b7 mem k) z sz len (iZ (bf tm) z parts)
 |.mb k z bytes len cap=>E3 (idx (bf tm len)) (idx (bf tm cap)) (BF k (b7 mem k) z bytes)
 |.load n dE x=>hP (nU mem n dE (bf tm x))
 |.rI len sz x ct Q none=>hP (g5 (ie 0 (ct.map (bf tm))) λl=>g5 (ie len (Q.map (bf tm))) λh=>xv mem len sz l h (bf tm x))
 |.store n x v=>uq mem n (bf tm x) (bf tm v).cells
 |.app k z bytes s x=>oK mem k z bytes (bf tm s) (nW mem (o z) (bf tm x))
 |.rJ sz d x=>sW mem sz (bf tm d) (nW mem sz (bf tm x))
 |.pM z x=>ur mem z (bf tm x)
 |op=>hP (jl tm op)
inductive gg where
 |same (r:Data)
 |own (sz:Nat) (es:List (List Data))
 |rel (cD:O->Mem->Prop)
 |hO (r:Data) (k:Key) (g i:Nat) (c:O)
 |vF (r:Data) (k:Key)
abbrev br:=FuncId->List O->Mem->Option gg
def hd (mem:Mem):Option (Key×Nat×List O)->Mem
 |none=>mem
 |some (k,g,cs)=>bI mem k g cs
def zj (mem:Mem)(k:Key):List O:=match mem k with
 |some (_,cs)=>cs
 |none=>[]
def rM (T:br)(K:bz->Prop)(st:bz)(dst:Option Nat)(f:FuncId)(args:List O):Prop :=
 match T f args st.mem with
 |some (.same r)=>K ⟨put st.tm dst (.J r),st.mem⟩
 |some (.own _ es)=>K ⟨put st.tm dst (.J (.X es)),st.mem⟩
 |some (.rel cD)=>∀r mem',cD r mem'->K ⟨put st.tm dst r,mem'⟩
 |some (.hO r k g i c)=>K ⟨put st.tm dst (.J r),bI st.mem k g ((zj st.mem k).set i c)⟩
 |some (.vF r k)=>K ⟨put st.tm dst (.J r),bI st.mem k (b7 st.mem k) []⟩
 |none=>False
def zk:O->Option Bool
 |.J (.X es)=>some (!es.isEmpty)
 |.nil=>some false
 |.ref _ _ _ _ len=>some (decide (0<len))
 |_=>none
def fJ (T:br)(K:bz->Prop)(i:cZ)(st:bz):Prop :=
 match i.op with
 |.call f args=>rM T K st i.dst f (args.map (bf st.tm))
 |.na k sz f args=>match T f (args.map (bf st.tm)) st.mem with
  |some (.own dZ es)=>if dZ=sz then K ⟨put st.tm i.dst (.ref k (b7 st.mem k) sz 0 (o es)),bI st.mem k (b7 st.mem k) (es.flatten.map .J)⟩ else False
  |_=>False
 |.iY f args=>match bf st.tm f with
  |.e5 g en=>rM T K st i.dst g (args.map (bf st.tm)++en)
  |.J (.fn g ds)=>rM T K st i.dst g (args.map (bf st.tm)++ds.map .J)
  |_=>False
 |.pK neg x=>match zk (bf st.tm x) with
  |some full=>∀b:Bool,(full=true->b=false)->K ⟨put st.tm i.dst (.J (.bool (neg != b))),st.mem⟩
  |none=>False
 |op=>match cl st.mem st.tm op with
  |some (m,e)=>K ⟨put st.tm i.dst m,hd st.mem e⟩
  |none=>False
def mK (tm:Nat->O):Option (Nat×Bool)->Option Bool
 |none=>some true
 |some (s,b)=>match tm s with
  |.J (.bool t)=>some (t==b)
  |.no=>some false
  |_=>none
def uu (T:br)(K:bz->Prop):List cZ->bz->Prop
 | [],st=>K st
 |i::r,st=>match mK st.tm i.g with
  |none=>False
  |some g=>if g=true then fJ T (uu T K r) i st else uu T K r ⟨put st.tm i.dst .no,st.mem⟩
def keyOf:O->List Key
 |.ref k ..=>[k]
 |.ptr k ..=>[k]
 |_=>[]
inductive lh where
 |gL (k:Key)
 |rd (k:Key) (a b:Nat)
 |wr (k:Key) (i:Nat)
def lh.key:lh->Key
 |.gL k=>k
 |.rd k _ _=>k
 |.wr k _=>k
def oL:lh->lh->Bool
 |.gL k,.gL k' => !(k==k')
 |.gL k,.rd k' _ _ => !(k==k')
 |.rd k _ _,.gL k' => !(k==k')
 |.rd _ _ _,.rd _ _ _=>true
 |.rd k a b,.wr k' i => !(k==k')||(decide (i<a)||decide (b<=i))
 |.wr k' i,.rd k a b => !(k==k')||(decide (i<a)||decide (b<=i))
 |.wr _ _,.wr _ _=>false
 |.gL _,.wr _ _=>false
 |.wr _ _,.gL _=>false
def BG (n:Nat):O->List lh
 |.ref k ..=>[.gL k]
 |.ptr k _ off=>[.rd k off (off+n)]
 |_=>[]
def E7 (ct:Nat):List O->List lh
 |.ptr k _ off::_=>[.wr k (off+ct)]
 |_=>[]
def sX:Option O->List lh
 |some (.ref k ..)=>[.gL k]
 |_=>[]
def dq (tm:Nat->O):iF->List lh
 |.load n _ x=>BG n (bf tm x)
 |.rI _ _ x _ _ _=>(keyOf (bf tm x)).map .gL
 |.store _ x _=>(keyOf (bf tm x)).map .gL
 |.alloc k _=>[.gL k]
 |.box k _=>[.gL k]
 |.fz k true _ _ _ _=>[.gL k]
 |.mb k _ _ _ _=>[.gL k]
 |.na k _ _ _=>[.gL k]
 |.app k _ _ s x => .gL k::((keyOf (bf tm s)).map .gL++(keyOf (bf tm x)).map .gL)
 |.rJ _ d x=>(keyOf (bf tm d)).map .gL++(keyOf (bf tm x)).map .gL
 |.lS ct _ args=>E7 ct (args.map (bf tm))
 |.qy j _ args=>sX (args.map (bf tm))[j]?
 |.pL j _ args=>sX (args.map (bf tm))[j]?
 |.pM _ x=>(keyOf (bf tm x)).map .gL
 |_=>[]
def ig:iF->Bool
 |.store ..=>true
 |.alloc ..=>true
 |.box ..=>true
 |.fz _ true _ _ _ _=>true
 |.mb ..=>true
 |.na ..=>true
 |.app ..=>true
 |.rJ ..=>true
 |.lS ..=>true
 |.qy ..=>true
 |.pL ..=>true
 |.pM ..=>true
 |_=>false
def shut:O->O
 |.J d => .J d
 |.nil => .nil
 |.e5 f [] => .e5 f []
 |.agg cs=>match cs.mapM rK with
  |some ds => .J (.agg ds)
  |none => .undef
 |_ => .undef
def BH (ct:Nat)(mem:Mem):List O->Option gg->Option (O×Option (Key×Nat×List O))
 |.ptr k _ off::_,some (.hO r k' c4 i c)=>match mem k with
  |some (g,cs)=>if k'=k/\c4=g/\i=off+ct then some (.J r,some (k,g,cs.set i c)) else none
  |none=>none
 |_,_=>none
def M7 (cs:List O):Option (List Data):=cs.mapM rK
def E8 (sz off len:Nat)(cs:List O):Option Data:=match cut cs off (len*sz) with
 |some part=>(M7 part).map λds => .X (chunk sz len ds)
 |none=>none
def I6:Option gg->Option Data
 |some (.same r)=>some r
 |some (.own _ es)=>some (.X es)
 |_=>none
def M8 (T:br)(j:Nat)(f:FuncId)(ms:List O)(k:Key)(g sz off len:Nat):Option (Nat×List O)->Option (O×Option (Key×Nat×List O))
 |some (c4,cs)=>if c4=g then (match E8 sz off len cs with
  |some d=>(match I6 (T f (ms.set j (.J d)) emp) with
   |some r=>some (.J r,some (k,c4+1,[]))
   |none=>none)
  |none=>none) else none
 |none=>none
def E9 (T:br)(mem:Mem)(j:Nat)(f:FuncId)(ms:List O):Option O->Option (O×Option (Key×Nat×List O))
 |some (.ref k g sz off len)=>M8 T j f ms k g sz off len (mem k)
 |_=>none
def nb (cs:List O):Bool:=cs.all λm=>(rK m).isSome
def M9 (T:br)(j:Nat)(f:FuncId)(ms:List O)(k:Key)(g sz off len:Nat):Option (Nat×List O)->Option (O×Option (Key×Nat×List O))
 |some (c4,cs)=>if nb cs=true then (match T f (ms.set j (.ref k g sz off len)) (bI emp k c4 cs) with
  |some (.vF r k')=>if k'=k then some (.J r,some (k,c4+1,[])) else none
  |_=>none) else none
 |none=>none
def Fa (T:br)(mem:Mem)(j:Nat)(f:FuncId)(ms:List O):Option O->Option (O×Option (Key×Nat×List O))
 |some (.ref k g sz off len)=>M9 T j f ms k g sz off len (mem k)
 |_=>none
def gM (T:br)(mem:Mem)(tm:Nat->O):iF->Option (O×Option (Key×Nat×List O))
 |.call f args=>match T f (args.map λx=>shut (bf tm x)) emp with
  |some (.same r)=>some (.J r,none)
  |some (.own _ es)=>some (.J (.X es),none)
  |_=>none
 |.na k sz f args=>match T f (args.map λx=>shut (bf tm x)) emp with
  |some (.own dZ es)=>if dZ=sz then some (.ref k (b7 mem k) sz 0 (o es),some (k,b7 mem k,es.flatten.map .J)) else none
  |_=>none
 |.iY ..=>none
 |.pK ..=>none
 |.lS ct f args=>BH ct mem (args.map (bf tm)) (T f (args.map (bf tm)) mem)
 |.qy j f args=>E9 T mem j f (args.map λx=>shut (bf tm x)) (args.map (bf tm))[j]?
 |.pL j f args=>Fa T mem j f (args.map λx=>shut (bf tm x)) (args.map (bf tm))[j]?
 |op=>cl mem tm op
abbrev Rec:=Nat->Option (Bool×List lh)
def oM (a b:Bool×List lh):Bool:=!(a.1||b.1)||a.2.all λx=>b.2.all λy=>oL x y
def BI (rec:Rec)(p:Bool×List lh)(c:List Nat):Bool:=c.all λi=>match rec i with
 |none=>true
 |some q=>oM q p
def rN (rec:Rec)(n:Nat)(p:Bool×List lh):Rec:=λi=>if i=n then some p else rec i
def sY (T:br)(K:bz->Prop):Nat->List cZ->List (List Nat)->Rec->bz->Prop
 |_,[],_,_,st=>K st
 |n,i::r,cs,rec,st=>match mK st.tm i.g with
  |none=>False
  |some g=>if g=true then (match gM T st.mem st.tm i.op with
    |some (m,e)=>BI rec (ig i.op,dq st.tm i.op) (cs.headD [])=true/\sY T K (n+1) r cs.tail (rN rec n (ig i.op,dq st.tm i.op)) ⟨put st.tm i.dst m,hd st.mem e⟩
    |none=>False) else sY T K (n+1) r cs.tail rec ⟨put st.tm i.dst .no,st.mem⟩
inductive fA where
 |normal
 |exit (id:Nat)
 |ret
def da:Nat->Mem->O->Option Data
 |_,_,.J d=>some d
 |_,_,.nil=>some (.X [])
 |0,_,_=>none
 |n+1,mem,.ref k g sz off len=>match mem k with
  |some (c4,cs)=>if c4=g then (match cut cs off (len*sz) with
   |some part=>(part.mapM (da n mem)).map λds => .X (chunk sz len ds)
   |none=>none) else none
  |none=>none
 |n+1,mem,.ptr k g off=>match mem k with
  |some (c4,cs)=>if c4=g/\off<=(o cs) then ((cs.drop off).mapM (da n mem)).map .ptr else none
  |none=>none
 |n+1,mem,.e5 f cs=>(cs.mapM (da n mem)).map (.fn f)
 |n+1,mem,.agg cs=>(cs.mapM (da n mem)).map .agg
 |n+1,mem,.cQ cs=>(cs.mapM (da n mem)).map .cQ
 |_,_,.no=>none
 |_,_,.undef=>none
def kill (mem:Mem)(k:Key):Mem:=bI mem k (b7 mem k) []
inductive Fb (mem:Mem):Mem->Prop
 |af3 (gY hQ:Nat) (gN:List O) (i k g sz off len:Nat) (cs:List O) (k':Nat) (D:mem gY=some (hQ,gN)) (G:gN[i]?=some (.ref k g sz off len)) (ag:mem k=some (g,cs)) (aR:k≠gY) (bs:k'≠k) (b1:k'≠gY) :
   Fb mem (bI (bI (bI mem k (b7 mem k) []) k' (b7 mem k') cs) gY hQ (gN.set i (.ref k' (b7 mem k') sz off len)))
 |af4 (gY hQ:Nat) (gN:List O) (i k g off:Nat) (cs:List O) (k':Nat) (D:mem gY=some (hQ,gN)) (G:gN[i]?=some (.ptr k g off)) (ag:mem k=some (g,cs)) (aR:k≠gY) (bs:k'≠k) (b1:k'≠gY) :
   Fb mem (bI (bI (bI mem k (b7 mem k) []) k' (b7 mem k') cs) gY hQ (gN.set i (.ptr k' (b7 mem k') off)))
 |WC (gY hQ:Nat) (gN:List O) (i k g sz off len:Nat) (cs:List O) (d:Data) (D:mem gY=some (hQ,gN)) (G:gN[i]?=some (.ref k g sz off len)) (ag:mem k=some (g,cs)) (aR:k≠gY) (bs:da 1 mem (.ref k g sz off len)=some d) :
   Fb mem (bI (kill mem k) gY hQ (gN.set i (.J d)))
inductive sZ:Mem->Mem->Prop
 |refl (mem:Mem):sZ mem mem
 |step {mem WD WE:Mem} (h:Fb mem WD) (cu:sZ WD WE):sZ mem WE
def oN (K:bz->Prop)(st:bz):IZ->Prop
 |.nT s k sz=>match st.tm s with
  |.nil=>K ⟨hO st.tm s (.ref k (b7 st.mem k) sz 0 0),bI st.mem k (b7 st.mem k) []⟩
  |_=>False
 |.WA x i k sz=>match bf st.tm x with
  |.ptr s0 g off=>match st.mem s0 with
   |some (c4,cs)=>if c4=g then (match cs[off+i]? with
    |some .nil=>if k≠s0 then K ⟨st.tm,bI (bI st.mem k (b7 st.mem k) []) s0 g (cs.set (off+i) (.ref k (b7 st.mem k) sz 0 0))⟩ else False
    |_=>False) else False
   |none=>False
  |_=>False
 |.freeze s=>match st.tm s with
  |.ref k g _ _ _=>match st.mem k with
   |some (c4,cs)=>if c4=g/\nb cs=true then (match da 1 st.mem (st.tm s) with
    |some d=>K ⟨hO st.tm s (.J d),kill st.mem k⟩
    |none=>False) else False
   |none=>False
  |_=>False
 |.WB x i=>match bf st.tm x with
  |.ptr s0 gc off=>match st.mem s0 with
   |some (Na,cc)=>if Na=gc then (match cc[off+i]? with
    |some (.ref k g sz ar len)=>match st.mem k with
     |some (c4,cs)=>if c4=g/\nb cs=true/\k≠s0 then (match da 1 st.mem (.ref k g sz ar len) with
      |some d=>K ⟨st.tm,bI (kill st.mem k) s0 gc (cc.set (off+i) (.J d))⟩
      |none=>False) else False
     |none=>False
    |_=>False) else False
   |none=>False
  |_=>False
 |.move=>K st\/(∃gY hQ gN i k g sz off len cs k',st.mem gY=some (hQ,gN)/\gN[i]?=some (.ref k g sz off len)/\st.mem k=some (g,cs)/\k≠gY/\k'≠k/\k'≠gY /\
   K ⟨st.tm,bI (bI (bI st.mem k (b7 st.mem k) []) k' (b7 st.mem k') cs) gY hQ (gN.set i (.ref k' (b7 st.mem k') sz off len))⟩) \/
   ∃gY hQ gN i k g sz off len cs d,st.mem gY=some (hQ,gN)/\gN[i]?=some (.ref k g sz off len)/\st.mem k=some (g,cs)/\nb cs=true/\k≠gY/\da 1 st.mem (.ref k g sz off len)=some d /\
   K ⟨st.tm,bI (kill st.mem k) gY hQ (gN.set i (.J d))⟩
 |.many=>∃mem',sZ st.mem mem'/\K ⟨st.tm,mem'⟩
def wp (T:br):e6->(fA->bz->Prop)->bz->Prop
 |.skip,K,st=>K .normal st
 |.ops l,K,st=>uu T (K .normal) l st
 |.pN l c,K,st=>sY T (K .normal) 0 l c (λ_=>none) st
 |.seq a b,K,st=>wp T a (λe dy=>match e with
  |.normal=>wp T b K dy
  |e=>K e dy) st
 |.cond c a b,K,st=>match bf st.tm c with
  |.J (.bool t)=>if t=true then wp T a K st else wp T b K st
  |_=>False
 |.block id c,K,st=>wp T c (λe dy=>match e with
  |.exit j=>if j=id then K .normal dy else K (.exit j) dy
  |e=>K e dy) st
 |.loop c,K,st=>∃(zl:bz->Prop) (μ:bz->Nat),zl st/\∀st,zl st->wp T c (λe dy=>match e with
  |.normal=>zl dy/\μ dy<μ st
  |e=>K e dy) st
 |.exit id,K,st=>K (.exit id) st
 |.ret,K,st=>K .ret st
 |.ghost g c,K,st=>oN (wp T c K) st g
def BJ (st:bz):mc->Option O
 |.t s=>some (st.tm s)
 |.cell s n dE=>nU st.mem n dE (st.tm s)
def nc (st:bz)(l:List mc):Option O :=
 match l.mapM (BJ st) with
 |some [m]=>some m
 |some ms=>some (.cQ ms)
 |none=>none
def nd (args:List O):Nat->O:=λs=>match args[s]? with
 |some m=>m
 |none => .no
def Fc:Value->Option O
 |.int k n=>some (.J (.int k n))
 |.bool b=>some (.J (.bool b))
 |.string s=>some (.J (.str s.data.toList))
 |.slice none 0 0=>some .nil
 |.pointer none=>some (.J .vD)
 |.nilFunc=>some (.J .um)
 |_=>none
def Nb:Value->Option O
 |.agg cs=>(cs.toList.mapM Fc).map .agg
 |v=>Fc v
def dt:Operand->Option bT
 |.tmp t=>some (.t t)
 |.const v=>(Nb v).map .c
 |.func f=>some (.c (.e5 f []))
 |.global _=>none
def zeroOf (P:Program)(t:TypeId):Option (List O):=((P.info? t).bind (·.zero)).bind λz=>z.cells.toList.mapM Fc
def fF (P:Program)(t:TypeId):Option Nat:=(P.info? t).map (·.size)
def BK (P:Program)(t:TypeId):Option Nat:=(P.info? t).map (·.bytes)
def vG (P:Program)(t:TypeId):Option Bool:=(P.underlying t).map fun|.struct _=>true|.array _ _=>true|_=>false
def partsOf (place:Nat->Option (Nat×Nat))(l:List (Nat×Operand)):Option (List (Nat×Nat×bT)) :=
 l.mapM λ(i,x)=>do
  let (ar,s) <-place i
  let y <-dt x
  pure (ar,s,y)
def rO (P:Program)(dz:Array Field)(i:Nat):Option (Nat×Nat):=do
 let f <-dz[i]?
 let s <-fF P f.type
 pure (f.offset,s)
def Fe (P:Program)(t:TypeId):Option Nat :=
 match P.underlying t with
 |some .bool=>some 0
 |some (.int _)=>some 1
 |some .string=>some 2
 |_=>none
def BL (P:Program):Nat->List Field->Option (List Nat)
 |_,[]=>some []
 | i, f :: r => if f.name ≠ "_" /\ f.offset = i then (match Fe P f.type, BL P (i + 1) r with
  |some k,some fX=>some (k::fX)
  |_,_=>none) else none
def s3 (P:Program)(t:TypeId)(dz:Array Field)(neg:Bool)(x y:Operand):Option iF :=
 if P.stoodInHeld t=false/\P.eqGuardType P.depth t=false then (match BL P 0 dz.toList,dt x,dt y with
  |some fX,some x,some y=>some (.eqs neg fX x y)
  |_,_,_=>none) else none
def Nc:Operand->Bool
 |.const (.slice none 0 0)=>true
 |_=>false
def vH (P:Program)(op:BinOp)(t:TypeId)(x y:Operand):Option iF :=
 match P.underlying t with
 |some (.int _)=>match dt x,dt y with
  |some x,some y=>some (.bin op x y)
  |_,_=>none
 |some .string=>match dt x,dt y with
  |some x,some y=>some (.bin op x y)
  |_,_=>none
 |some .bool=>match op,dt x,dt y with
  |.eql,some x,some y=>some (.beq false x y)
  |.neq,some x,some y=>some (.beq true x y)
  |_,_,_=>none
 |some (.struct dz)=>match op with
  |.eql=>s3 P t dz false x y
  |.neq=>s3 P t dz true x y
  |_=>none
 |some (.slice _)=>if Nc y=true then (match op with
  |.eql=>(dt x).map (.pK false)
  |.neq=>(dt x).map (.pK true)
  |_=>none) else none
 |_=>none
def qB:Option Operand->Option (Option bT)
 |none=>some none
 |some x=>(dt x).map some
def uv (P:Program)(kb:Nat)(own:List Nat)(dst:Option Nat)(type:TypeId)(c:Call):Option iF :=
 match c.callee,c.args.toList,c.argTypes.toList with
 |.builtin .len,[x],[t]=>match P.underlying t with
  |some (.slice _)=>(dt x).map .len
  |some .string=>(dt x).map .lens
  |_=>none
 |.builtin .append,[s,x],[t,u]=>match P.underlying t,P.underlying u with
  |some (.slice e),some (.slice _)=>do
   let z <-zeroOf P e
   let b <-BK P e
   let n <-fF P e
   let d <-dst
   let s <-dt s
   let x <-dt x
   if (o z)=n/\0<n/\t=u then pure (.app (kb+d) z b s x) else none
  |_,_=>none
 |.builtin .copy,[d,x],[t,u]=>match P.underlying t,P.underlying u with
  |some (.slice e),some (.slice _)=>do
   let n <-fF P e
   if 0<n then pure (.rJ n (<-dt d) (<-dt x)) else none
  |_,_=>none
 |.builtin .clear,[x],[t]=>match P.underlying t with
  |some (.slice e)=>do
   let z <-zeroOf P e
   let n <-fF P e
   if (o z)=n/\0<n then pure (.pM z (<-dt x)) else none
  |_=>none
 |.builtin .max,[x,y],_=>do pure (.jP true (<-dt x) (<-dt y))
 |.builtin .min,[x,y],_=>do pure (.jP false (<-dt x) (<-dt y))
 |.value (.func f),l,_=>if dst.any (λd=>own.contains d) then (match P.underlying type with
   |some (.slice e)=>do pure (.na (kb+(<-dst)) (<-fF P e) f (<-l.mapM dt))
   |_=>none) else match own.find? (λar=>decide (1000000<=ar)&&dst==some (ar%1000000)) with
   |some ar=>if 1000000000000<=ar then do pure (.pL (ar/1000000000000-1) f (<-l.mapM dt)) else if 1000000000<=ar then do pure (.qy (ar/1000000000-1) f (<-l.mapM dt)) else do pure (.lS (ar/1000000-1) f (<-l.mapM dt))
   |none=>do pure (.call f (<-l.mapM dt))
 |.value f,l,_=>do pure (.iY (<-dt f) (<-l.mapM dt))
 |_,_,_=>none
def ih (P:Program)(kb:Nat)(own:List Nat)(dst:Option Nat)(type:TypeId):Op->Option iF
 |.move x=>(dt x).map .ck
 |.assign x=>(dt x).map .ck
 |.pick c a b=>do pure (.pick (<-dt c) (<-dt a) (<-dt b))
 |.alloc e=>do pure (.alloc (kb+(<-dst)) (<-zeroOf P e))
 |.box _ x=>do pure (.box (kb+(<-dst)) (<-dt x))
 |.build t ps=>match P.underlying t with
  |some (.struct dz)=>if (dz.toList.all λf=>(fF P f.type).isSome)=true then do pure (.build (<-zeroOf P t) (<-partsOf (rO P dz) ps.toList)) else none
  |some (.array _ e)=>do
   let s <-fF P e
   pure (.build (<-zeroOf P t) (<-partsOf (λi=>some (i*s,s)) ps.toList))
  |_=>none
 |.buildSlice t len ps=>match P.underlying t with
  |some (.slice e)=>do
   let z <-zeroOf P e
   let s <-fF P e
   let ps <-partsOf (λi=>some (i*s,s)) ps.toList
   let d <-dst
   if (o z)=s/\0<s/\len*s<=16777216 then pure (.fz (kb+d) (own.contains d) ((eL len z).flatten) s len ps) else none
  |_=>none
 |.load t x=>do pure (.load (<-fF P t) (<-vG P t) (<-dt x))
 |.store t x v=>do pure (.store (<-fF P t) (<-dt x) (<-dt v))
 |.binOp op t x y _=>vH P op t x y
 |.unOp op _ x=>(dt x).map (.un op)
 |.nilCheck x=>(dt x).map .zf
 |.convert s t x=>match P.underlying s,P.underlying t with
  |some (.int _),some (.int k)=>(dt x).map (.conv k)
  |_,_=>none
 |.makeFunc (.func f) fst en=>if fst.size=0 then do pure (.qz f (<-en.toList.mapM dt)) else none
 |.makeSlice t l c=>match P.underlying t with
  |some (.slice e)=>do
   let z <-zeroOf P e
   let s <-fF P e
   let b <-BK P e
   let d <-dst
   if (o z)=s/\0<s then pure (.mb (kb+d) z b (<-dt l) (<-dt c)) else none
  |_=>none
 |.slice t x ct Q iG=>match P.underlying t with
  |some (.slice e)=>do
   let s <-fF P e
   if 0<s then pure (.m9 s (<-dt x) (<-qB ct) (<-qB Q) (<-qB iG)) else none
  |some (.array n e)=>do
   let s <-fF P e
   if 0<s/\n<=16777216 then pure (.rI n s (<-dt x) (<-qB ct) (<-qB Q) (<-qB iG)) else none
  |some .string=>if iG.isNone then do pure (.zi (<-dt x) (<-qB ct) (<-qB Q)) else none
  |_=>none
 |.fieldAddr t x f=>match P.underlying t with
  |some (.struct dz)=>do
   let (ar,s) <-rO P dz f
   if 0<s then pure (.c3 ar (<-dt x)) else none
  |_=>none
 |.field t x f=>match P.underlying t with
  |some (.struct dz)=>do
   let fd <-dz[f]?
   let (ar,s) <-rO P dz f
   pure (.zg ar s (<-vG P fd.type) (<-dt x))
  |_=>none
 |.indexAddr t x i=>match P.underlying t with
  |some (.slice e)=>do
   let s <-fF P e
   if 0<s then pure (.jO s (<-dt x) (<-dt i)) else none
  |some (.array n e)=>do
   let s <-fF P e
   if 0<s then pure (.zh n s (<-dt x) (<-dt i)) else none
  |_=>none
 |.index t x i=>match P.underlying t with
  |some .string=>do pure (.idxs (<-dt x) (<-dt i))
  |_=>none
 |.extract x i=>(dt x).map (.ext i)
 |.call c=>uv P kb own dst type c
 |_=>none
def Ff (ops:Array Oper):Option (Nat×Bool)->Option (Option (Nat×Bool))
 |none=>some none
 |some (j,b)=>match (ops[j]?).bind (·.dst) with
  |some s=>some (some (s,b))
  |none=>none
def xw (P:Program)(n kb:Nat)(own:List Nat)(ops:Array Oper)(ar:Oper):Option cZ :=
 match Ff ops ar.guard with
 |some g=>if ar.dst.all (λd=>decide (d<n))=true then some ⟨ar.dst,g,(ih P kb own ar.dst ar.type ar.op).getD .bad⟩ else none
 |_=>none
def pP (m:iF):Nat:=match m with
 |.load ..=>1
 |.rI ..=>1
 |m=>if ig m=true then 2 else 0
def vI (a b:Nat):Bool:=a==0||b==0||(a==1&&b==1)
def eM:bT->List Nat
 |.t s=>[s]
 |.c _=>[]
def uw:Option bT->List Nat
 |some (.t s)=>[s]
 |_=>[]
def pQ:iF->List Nat
 |.ck x=>eM x
 |.pick c a b=>eM c++eM a++eM b
 |.alloc _ _=>[]
 |.box _ x=>eM x
 |.build _ ps=>ps.flatMap λp=>eM p.2.2
 |.fz _ _ _ _ _ ps=>ps.flatMap λp=>eM p.2.2
 |.load _ _ x=>eM x
 |.store _ x v=>eM x++eM v
 |.bin _ x y=>eM x++eM y
 |.beq _ x y=>eM x++eM y
 |.eqs _ _ x y=>eM x++eM y
 |.pK _ x=>eM x
 |.un _ x=>eM x
 |.conv _ x=>eM x
 |.zf x=>eM x
 |.mb _ _ _ x y=>eM x++eM y
 |.c3 _ x=>eM x
 |.zg _ _ _ x=>eM x
 |.jO _ x i=>eM x++eM i
 |.zh _ _ x i=>eM x++eM i
 |.idxs x i=>eM x++eM i
 |.m9 _ x a b c=>eM x++uw a++uw b++uw c
 |.rI _ _ x a b c=>eM x++uw a++uw b++uw c
 |.zi x a b=>eM x++uw a++uw b
 |.ext _ x=>eM x
 |.len x=>eM x
 |.lens x=>eM x
 |.app _ _ _ s x=>eM s++eM x
 |.rJ _ s x=>eM s++eM x
 |.jP _ x y=>eM x++eM y
 |.call _ l=>l.flatMap eM
 |.na _ _ _ l=>l.flatMap eM
 |.iY f l=>eM f++l.flatMap eM
 |.lS _ _ l=>l.flatMap eM
 |.qy _ _ l=>l.flatMap eM
 |.pL _ _ l=>l.flatMap eM
 |.pM _ x=>eM x
 |.qz _ l=>l.flatMap eM
 |.bad=>[]
def looks (i:cZ):List Nat:=pQ i.op++(match i.g with|some (s,_)=>[s]|none=>[])
def ux (x y:cZ):Bool :=
 (
  match x.dst with
  |some d => !(looks y).contains d&&y.dst != some d
  |none=>true) &&
 (
  match y.dst with
  |some d => !(looks x).contains d
  |none=>true)
def nX:List Oper->List Nat->List Nat
 | [],acc=>acc
 |ar::r,acc=>nX r (acc++[ar.after.toList.foldl (λs e=>if Region.binds .any e=true then s ||| (2^e.on ||| acc.getD e.on 0) else s) 0])
def BM:List cZ->List cZ->List Nat->Bool
 |_,[],_=>true
 |pre,c::cs,a::as=>(pre.zipIdx.all λ(p,i)=>a.testBit i||ux p c)&&BM (pre++[c]) cs as
 |_,_::_,[]=>false
def BN:Nat->List Oper->Bool
 |_,[]=>true
 |n,ar::r=>(ar.after.all λe => !Region.binds .any e||decide (e.on<n))&&BN (n+1) r
def BO (ops:Array Oper)(l:List cZ):Bool:=BN 0 ops.toList&&BM [] l (nX ops.toList [])
def vJ:List cZ->List cZ->List Nat->List (List Nat)
 |_,[],_=>[]
 |pre,c::cs,as=>((pre.zipIdx.filter λ(p,i) => !((as.headD 0).testBit i||vI (pP p.op) (pP c.op))).map (·.2))::vJ (pre++[c]) cs as.tail
def nY (P:Program)(n kb:Nat)(own:List Nat):Code->Option e6
 |.skip=>some .skip
 |.region _ ops draw=>match ops.toList.mapM (xw P n kb own ops) with
  |some l=>if draw=true then (if BO ops l=true then some (.pN l (vJ [] l (nX ops.toList []))) else none) else some (.ops l)
  |none=>none
 |.seq a b=>match nY P n kb own a,nY P n kb own b with
  |some x,some y=>some (.seq x y)
  |_,_=>none
 |.cond c a b=>match dt c,nY P n kb own a,nY P n kb own b with
  |some c,some x,some y=>some (.cond c x y)
  |_,_,_=>none
 |.block id c=>(nY P n kb own c).map (.block id)
 |.loop c=>(nY P n kb own c).map .loop
 |.exit id=>some (.exit id)
 |.ret=>some .ret
 |_=>none
def BP (P:Program):ResultVar->Option mc
 |.tmp t=>some (.t t)
 |.cell a t=>match fF P t,vG P t with
  |some s,some g=>some (.cell a s g)
  |_,_=>none
def qC (P:Program)(kb:Nat)(own:List Nat)(f:Func):Option bP :=
 match f.body with
 |none=>none
 |some c=>match nY P f.ntmps kb own c,f.results.toList.mapM (BP P) with
  |some b,some r=>some { n:=f.ntmps,af2:=f.params.size+f.nfree,res:=r,body:=b }
  |_,_=>none
structure ea (A:Nat->Prop) (w:World) (B:Lay) (aI:World) (bB:Lay) (mem':Mem):Prop where
 dC:eK A aI bB mem'
 kO:Trans A w B aI bB
 aC:Fr (pJ B) w aI
 fresh:∀b,pJ bB b->pJ B b\/w.heap.size<=b
theorem ea.still {A:Nat->Prop}{w aI:World}{B:Lay}{mem:Mem}(h:eK A w B mem)(f:Fr (λ_=>False) w aI):ea A w B aI B mem:=by
 have kO:Trans A w B aI B:=⟨f.size,λb ah bM=>⟨f.block b ah id,λI=>bM (.inl I)⟩,λ_ e he=>⟨e,he,.inl rfl⟩⟩;refine⟨⟨h.xt,h.inj,h.sep,λb ah=>ze (h.lt b ah) f.size,λk g cs hm=>?_⟩,kO,⟨f.os,f.tape,f.output,f.size,λb ah _=>f.block b ah id⟩,λb ah => .inl ah⟩;obtain⟨e,he,bw,aL,ah⟩:=h.dc k g cs hm;refine⟨e,he,bw,aL,λb ij=>?_⟩;obtain⟨vs,T,D,G,ag,aR⟩:=ah b ij;have az:b<w.heap.size:=(Array.getElem?_eq_some_iff.1 D).1;exact⟨vs,T,(f.block b az id).trans D,G,ag,λi m hm=>let ⟨v,ad,U⟩:=aR i m hm;⟨v,ad,U.oI kO⟩⟩
theorem ea.refl {A:Nat->Prop}{w:World}{B:Lay}{mem:Mem}(h:eK A w B mem):ea A w B w B mem:=.still h (Fr.refl _ _)
def fG (B:Lay)(k:Key)(e:ks):Lay:=λj=>if j=k then some e else B j
theorem gE (B:Lay)(k:Key)(e:ks):fG B k e k=some e:=by simp[fG]
theorem gu (B:Lay){k j:Key}(e:ks)(h:j≠k):fG B k e j=B j:=by simp[fG,h]
section
variable {A:Nat->Prop} {w aI:World} {B:Lay} {mem:Mem} {k:Key} {e':ks} {cs:List O}
theorem Trans.change (eu:w.heap.size<=aI.heap.size)
  (hold:∀b,b<w.heap.size->(∀e,B k=some e->e.dc≠some b)->aI.heap[b]?=w.heap[b]?)
  (bw:∀e,B k=some e->e'=e\/e.g<e'.g)
  (iH:∀b,e'.dc=some b->w.heap.size<=b\/∃e,B k=some e/\e.dc=some b):Trans A w B aI (fG B k e'):=by
 refine⟨eu,λb ah bM=>⟨hold b ah λe he I=>bM (.inl ⟨k,e,he,I⟩),?_⟩,λj e he=>?_⟩
 ·rintro⟨j,e,he,I⟩
  by_cases ay:j=k
  ·subst ay;rw[gE] at he
   cases he;rcases iH b I with D|⟨e,D,G⟩
   ·omega
   ·exact bM (.inl ⟨_,e,D,G⟩)
  ·rw[gu B e' ay] at he;exact bM (.inl ⟨j,e,he,I⟩)
 ·by_cases ay:j=k
  ·subst ay;exact⟨e',gE _ _ _,bw e he⟩
  ·exact⟨e,(gu B e' ay).trans he,.inl rfl⟩
theorem I7 (iH:∀b,e'.dc=some b->w.heap.size<=b\/∃e,B k=some e/\e.dc=some b)(b:Nat)(h:pJ (fG B k e') b):pJ B b\/w.heap.size<=b:=by
 obtain⟨j,e,he,I⟩:=h
 by_cases ay:j=k
 ·subst ay;rw[gE] at he
  cases he;rcases iH b I with D|⟨e,D,G⟩
  ·exact .inr D
  ·exact .inl ⟨_,e,D,G⟩
 ·rw[gu B e' ay] at he;exact .inl ⟨j,e,he,I⟩
theorem eK.Nd (h:eK A w B mem)(eu:w.heap.size<=aI.heap.size)
  (hold:∀b,b<w.heap.size->(∀e,B k=some e->e.dc≠some b)->aI.heap[b]?=w.heap[b]?)
  (bw:∀e,B k=some e->e'=e\/e.g<e'.g)
  (iH:∀b,e'.dc=some b->w.heap.size<=b\/∃e,B k=some e/\e.dc=some b)
  (aL:e'.dc=none->cs=[])
  (E:∀b,e'.dc=some b->∃vs T,aI.heap[b]?=some (.cells vs T (0,0))/\vs.size=e'.size/\o cs<=vs.size /\
   ∀(i:Nat) (m:O),cs[i]?=some m->∃v,vs[i]?=some v/\bA aI (ca A (fG B k e')) (fG B k e') m v):eK A aI (fG B k e') (bI mem k e'.g cs):=by
 have kO:Trans A w B aI (fG B k e'):=Trans.change eu hold bw iH;have fresh:=I7 (w:=w) iH;refine⟨λj ay=>?_,λj ka e aB b he eO ah e2=>?_,λb aM bM=>?_,λb ah=>ze (h.lt b ah) eu,λj g lj hm=>?_⟩
 ·by_cases dT:j=k
  ·subst dT;simp[bI] at ay
  ·simp only[bI,dT,if_false] at ay;rw[gu B e' dT];exact h.xt j ay
 ·by_cases dT:j=k<;>by_cases hjk':ka=k
  ·rw[dT,hjk']
  ·subst dT;rw[gE] at he
   cases he;rw[gu B e' hjk'] at eO;rcases iH b ah with D|⟨e,D,G⟩
   ·have:=h.uo ⟨ka,aB,eO,e2⟩;omega
   ·exact h.inj _ _ e aB b D eO G e2
  ·subst hjk';rw[gE] at eO
   cases eO;rw[gu B e' dT] at he;rcases iH b e2 with D|⟨cI,D,G⟩
   ·have:=h.uo ⟨j,e,he,ah⟩;omega
   ·exact h.inj _ _ e cI b he D ah G
  ·rw[gu B e' dT] at he;rw[gu B e' hjk'] at eO;exact h.inj j ka e aB b he eO ah e2
 ·rcases fresh b bM with D|D
  ·exact h.sep b aM D
  ·have:=h.lt b aM;omega
 ·by_cases dT:j=k
  ·subst dT;simp only[bI,if_true,cz,eU] at hm;obtain⟨rfl,rfl⟩:=hm;refine⟨e',gE _ _ _,rfl,aL,λb ah=>?_⟩;obtain⟨vs,T,D,G,ag,aR⟩:=E b ah;exact⟨vs,T,D,G,ag,aR⟩
  ·simp only[bI,dT,if_false] at hm;obtain⟨e,he,BQ,af5,g6⟩:=h.dc j g lj hm;refine⟨e,(gu B e' dT).trans he,BQ,af5,λb ah=>?_⟩;obtain⟨vs,T,D,G,ag,aR⟩:=g6 b ah;have az:b<w.heap.size:=(Array.getElem?_eq_some_iff.1 D).1;have BR:aI.heap[b]?=w.heap[b]?:=hold b az λcI ag aR=>dT (h.inj j k e cI b he ag ah aR);exact⟨vs,T,BR.trans D,G,ag,λi m hm=>let ⟨v,ad,U⟩:=aR i m hm;⟨v,ad,U.oI kO⟩⟩
theorem eK.change (h:eK A w B mem)(eu:w.heap.size<=aI.heap.size)
  (hold:∀b,b<w.heap.size->(∀e,B k=some e->e.dc≠some b)->aI.heap[b]?=w.heap[b]?)
  (bw:∀e,B k=some e->e'=e\/e.g<e'.g)
  (iH:∀b,e'.dc=some b->w.heap.size<=b\/∃e,B k=some e/\e.dc=some b)
  (aL:e'.dc=none->cs=[])
  (E:∀b,e'.dc=some b->∃vs T,aI.heap[b]?=some (.cells vs T (0,0))/\vs.size=e'.size/\o cs<=vs.size /\
   ∀(i:Nat) (m:O),cs[i]?=some m->∃v,vs[i]?=some v/\bA w (ca A B) B m v):eK A aI (fG B k e') (bI mem k e'.g cs) :=
 h.Nd eu hold bw iH aL λb ah=>by
  have kO:Trans A w B aI (fG B k e'):=Trans.change eu hold bw iH;obtain⟨vs,T,D,G,ag,aR⟩:=E b ah;exact⟨vs,T,D,G,ag,λi m hm=>let ⟨v,ad,U⟩:=aR i m hm;⟨v,ad,U.oI kO⟩⟩
theorem ea.change (h:eK A w B mem)(f:Fr (λb=>∃e,B k=some e/\e.dc=some b) w aI)
  (bw:∀e,B k=some e->e'=e\/e.g<e'.g)
  (iH:∀b,e'.dc=some b->w.heap.size<=b\/∃e,B k=some e/\e.dc=some b)
  (aL:e'.dc=none->cs=[])
  (E:∀b,e'.dc=some b->∃vs T,aI.heap[b]?=some (.cells vs T (0,0))/\vs.size=e'.size/\o cs<=vs.size /\
   ∀(i:Nat) (m:O),cs[i]?=some m->∃v,vs[i]?=some v/\bA w (ca A B) B m v):ea A w B aI (fG B k e') (bI mem k e'.g cs):=by
 have hold:∀b,b<w.heap.size->(∀e,B k=some e->e.dc≠some b)->aI.heap[b]?=w.heap[b]? :=
  λb ah I=>f.block b ah fun⟨e,he,ij⟩=>I e he ij
 exact⟨h.change f.size hold bw iH aL E,Trans.change f.size hold bw iH,⟨f.os,f.tape,f.output,f.size,λb ah bM=>f.block b ah fun⟨e,he,ij⟩=>bM ⟨k,e,he,ij⟩⟩,I7 iH⟩
theorem zm (h:eK A w B mem)(k:Key)(e:ks)(he:B k=some e):e.g<b7 mem k:=by
 cases hm:mem k with
 |none=>rw[h.xt k hm] at he;cases he
 |some x =>
  obtain⟨g,cs⟩:=x;obtain⟨aB,D,G,_⟩:=h.dc k g cs hm;rw[D] at he
  cases he;simp[b7,hm,G]
theorem ea.alloc (h:eK A w B mem)(w1:World)(f:Fr (λ_=>False) w w1)(a8:w1.heap.size=w.heap.size)(k:Key)(vs:Array Value)(T:TypeId)(ax:(o cs)<=vs.size)
  (E:∀(i:Nat) (m:O),cs[i]?=some m->∃v,vs[i]?=some v/\bA w (ca A B) B m v) :
  ea A w B (w1.alloc (.cells vs T)) (fG B k ⟨b7 mem k,some w.heap.size,vs.size⟩) (bI mem k (b7 mem k) cs):=by
 have f2:Fr (λ_=>False) w (w1.alloc (.cells vs T)):=f.alloc _;refine ea.change (e':=⟨b7 mem k,some w.heap.size,vs.size⟩) h ⟨f2.os,f2.tape,f2.output,f2.size,λb ah _=>f2.block b ah id⟩ (λe he => .inr (zm h k e he)) (λb ah => .inl ?_) (by simp) ?_
 ·simp at ah;omega
 ·intro b ah;simp at ah;subst ah;exact⟨vs,T,by rw[<-a8];exact heap_alloc_new w1 _,rfl,ax,E⟩
theorem ea.uy (h:eK A w B mem)(k:Key):ea A w B w (fG B k ⟨b7 mem k,none,0⟩) (bI mem k (b7 mem k) []) :=
 ea.change (e':=⟨b7 mem k,none,0⟩) h ⟨rfl,rfl,rfl,cA _,λ_ _ _=>rfl⟩ (λe he => .inr (zm h k e he)) (λb ah=>by simp at ah) (λ_=>rfl) (λb ah=>by simp at ah)
end
theorem ea.trans {A:Nat->Prop}{w w1 lg:World}{B xr zd:Lay}{cJ cE:Mem}(h:ea A w B w1 xr cJ)(cu:ea A w1 xr lg zd cE):ea A w B lg zd cE:=by
 refine⟨cu.dC,h.kO.trans cu.kO,⟨cu.aC.os.trans h.aC.os,cu.aC.tape.trans h.aC.tape,cu.aC.output.trans h.aC.output,eG h.aC.size cu.aC.size,λb ah bM=>?_⟩,λb ah=>?_⟩
 ·have D:=h.aC.block b ah bM;refine (cu.aC.block b (ze ah h.aC.size) λI=>?_).trans D;rcases h.fresh b I with G|G
  ·exact bM G
  ·omega
 ·rcases cu.fresh b ah with D|D
  ·exact h.fresh b D
  ·exact .inr (eG h.aC.size D)
theorem Nf {w:World}{aS:Nat->Prop}{B:Lay}{v:Value}{m:O}(h:Fc v=some m):bA w aS B m v:=by
 unfold Fc at h
 split at h<;>simp only[cz,reduceCtorEq] at h<;>subst h
 ·exact .J .int
 ·exact .J .bool
 ·rename_i s
  exact .J (by
   have:s=⟨s.data.toList.toArray⟩:=by simp
   rw[this]
   simpa using Den.str (s:=s.data.toList))
 ·exact .nil
 ·exact .J .vD
 ·exact .J .um
theorem me {α β:Type}{f:α->Option β}:∀{l:List α} {r:List β},l.mapM f=some r->(o r)=o l/\∀(i:Nat) (x:α) (y:β),l[i]?=some x->r[i]?=some y->f x=some y
 | [],r,h=>by
  simp at h;subst h;exact⟨rfl,λi x y D=>by simp at D⟩
 |a::l,r,h=>by
  simp only[lT,gv,gF,dQ,cz] at h;obtain⟨b,ah,xx,U,rfl⟩:=h;obtain⟨D,G⟩:=me U;refine⟨by simp[D],λi x y I ak=>?_⟩
  cases i with
  |zero=>simp at I ak;subst I;subst ak;exact ah
  |succ i=>exact G i x y (by simpa using I) (by simpa using ak)
theorem af6 {w:World}{aS:Nat->Prop}{B:Lay}{v:Value}{m:O}(h:Nb v=some m):bA w aS B m v:=by
 unfold Nb at h
 split at h
 ·rename_i cs;simp only[dI] at h;obtain⟨ms,aY,rfl⟩:=h;obtain⟨D,G⟩:=me aY;have:=bA.agg (w:=w) (aS:=aS) (B:=B) (cs:=ms) (vs:=cs.toList) (by simp[D]) λi d v ae ad=>Nf (G i v d ad ae)
  simpa using this
 ·exact Nf h
section
variable {P:Program} {w:World} {aS:Nat->Prop} {B:Lay}
theorem bA.uz {k:IntKind}{n:Int}{v:Value}(h:bA w aS B (.J (.int k n)) v):v=.int k n:=by
 cases h with
 |J h=>cases h;rfl
theorem bA.zn {b:Bool}{v:Value}(h:bA w aS B (.J (.bool b)) v):v=.bool b:=by
 cases h with
 |J h=>cases h;rfl
theorem bA.zo {s:List UInt8}{v:Value}(h:bA w aS B (.J (.str s)) v):v=.string ⟨s.toArray⟩:=by
 cases h with
 |J h=>cases h;rfl
theorem bA.ofInt {k:IntKind}{n:Int}:bA w aS B (.J (.int k n)) (.int k n):=.J .int
theorem af7 {op:BinOp}{k:IntKind}{a b:Int}{d:Data}(t:TypeId)(aa:BC op=false)(h:I0 op k a b=some d):
  ∃v,(binOp op t (.int k a) (.int k b)).run P w=.ok v w/\Den w aS d v:=by
 cases op<;>simp only[I0,cz,reduceCtorEq] at h<;>simp only[BC,Bool.true_eq_false] at aa
 case quo =>
  split at h
  ·cases h
  ·rename_i ah
   cases h;exact⟨_,by simp[go_sem,Op.intDiv,ah],.int⟩
 case rem =>
  split at h
  ·cases h
  ·rename_i ah
   cases h;exact⟨_,by simp[go_sem,Op.intDiv,ah],.int⟩
 all_goals
  subst h
  first
   |exact⟨_,by simp[go_sem,Op.intArith],.int⟩
   |exact⟨_,by simp[go_sem],.int⟩
   |exact⟨_,by simp[go_sem],.bool⟩
theorem af8 {op:BinOp}{k k':IntKind}{a b:Int}{d:Data}(t:TypeId)(aa:BC op=true)(h:I1 op k a b=some d):
  ∃v,(binOp op t (.int k a) (.int k' b)).run P w=.ok v w/\Den w aS d v:=by
 unfold I1 at h
 split at h
 ·cases h
 ·rename_i ah
  cases op<;>simp only[BC,kc] at aa
  ·simp only[cz] at h;subst h;exact⟨.int k _,by simp[binOp,Op.shift,ah],.int⟩
  ·simp only[cz] at h;subst h;exact⟨.int k _,by simp[binOp,Op.shift,ah],.int⟩
theorem I8 {op:BinOp}{t:TypeId}{x y:Operand}{u v:Value}(D:u ≠ .nilIface)(G:∀c,u ≠ .agg c):eqGuard op t x y u v=pure ():=by
 unfold eqGuard
 cases op<;>cases u<;>first|rfl|exact absurd rfl D|exact absurd rfl (G _)
theorem af9 {op:BinOp}{a b:List UInt8}{d:Data}(t:TypeId)(h:I2 op a b=some d):
  ∃v,(binOp op t (.string ⟨a.toArray⟩) (.string ⟨b.toArray⟩)).run P w=.ok v w/\Den w aS d v:=by
 have aga:binOp op t (.string ⟨a.toArray⟩) (.string ⟨b.toArray⟩)=Op.stringOp op ⟨a.toArray⟩ ⟨b.toArray⟩:=by
  cases op<;>rfl
 rw[aga]
 cases op<;>simp only[I2,cz,reduceCtorEq] at h
 case add =>
  split at h
  ·rename_i ax
   cases h;refine⟨.string ⟨(a++b).toArray⟩,?_,.str⟩;have I9:¬ (9223372036854775807<(o a:Int)+(o b:Int)):=by unfold maxLen at ax;omega
   have aw:(ByteArray.mk a.toArray).size=o a:=by simp[ByteArray.size]
   have aB:(ByteArray.mk b.toArray).size=o b:=by simp[ByteArray.size]
   have Ja:(ByteArray.mk a.toArray)++(ByteArray.mk b.toArray)=⟨(a++b).toArray⟩:=by
    apply ByteArray.ext;simp
   simp[Op.stringOp,aw,aB,I9,Ja]
  ·cases h
 all_goals
  subst h;exact⟨_,by simp[Op.stringOp],.bool⟩
theorem WG {op:BinOp}{m n r:O}{u v:Value}(t:TypeId)(x y:Operand)(hm:bA w aS B m u)(aL:bA w aS B n v)(h:EJ op m n=some r):
  ∃z,((do eqGuard op t x y u v;binOp op t u v:Sem Value)).run P w=.ok z w/\bA w aS B r z:=by
 unfold EJ at h
 split at h
 ·rename_i k a k' b
  cases hm.uz
  cases aL.uz;rw[I8 (by simp) (by simp)]
  split at h
  ·rename_i aa;simp only[dI] at h;obtain⟨d,ae,rfl⟩:=h;obtain⟨z,D,G⟩:=af8 (P:=P) (w:=w) (aS:=aS) (k':=k') t aa ae;exact⟨z,by simpa using D,.J G⟩
  ·rename_i aa
   split at h
   ·rename_i R;subst R;simp only[dI] at h;obtain⟨d,ae,rfl⟩:=h;obtain⟨z,D,G⟩:=af7 (P:=P) (w:=w) (aS:=aS) t (by simpa using aa) ae;exact⟨z,by simpa using D,.J G⟩
   ·cases h
 ·rename_i a b
  cases hm.zo
  cases aL.zo;rw[I8 (by simp) (by simp)];simp only[dI] at h;obtain⟨d,ae,rfl⟩:=h;obtain⟨z,D,G⟩:=af9 (P:=P) (w:=w) (aS:=aS) t ae;exact⟨z,by simpa using D,.J G⟩
 ·cases h
theorem WH {neg:Bool}{m n r:O}{u v:Value}(t:TypeId)(x y:Operand)(bV:P.underlying t=some .bool)(hm:bA w aS B m u)(aL:bA w aS B n v)(h:EK neg m n=some r):
  ∃z,((do eqGuard (if neg then .neq else .eql) t x y u v;binOp (if neg then .neq else .eql) t u v:Sem Value)).run P w=.ok z w/\bA w aS B r z:=by
 unfold EK at h
 split at h
 ·rename_i a b
  cases hm.zn
  cases aL.zn
  cases h;rw[I8 (by simp) (by simp)]
  cases neg
  ·exact⟨.bool (a==b),by simp[run_eql_bool w t a b bV],by cases a<;>cases b<;>exact .J .bool⟩
  ·exact⟨.bool (!(a==b)),by simp[run_neq_bool w t a b bV],by cases a<;>cases b<;>exact .J .bool⟩
 ·cases h
theorem agb {t:TypeId}{k:Nat}{m n:O}{c:Bool}{u v:Value}(d:Nat)(R:Fe P t=some k)(hm:bA w aS B m u)(aL:bA w aS B n v)(h:I3 k m n=some c):
  (Op.equalIn (d+1) t u v).run P w=.ok c w:=by
 unfold Fe at R;unfold I3 at h
 split at h
 ·simp only[cz] at h
  cases hm.zn
  cases aL.zn;subst h
  split at R<;>first|(exfalso;simp at R;done)|(rename_i hu;exact run_equalIn_bool w d t _ _ hu)
 ·split at h
  ·rename_i Jb;subst Jb
   cases hm.uz
   cases aL.uz
   cases h
   split at R<;>first|(exfalso;simp at R;done)|(rename_i hu;exact run_equalIn_int w d t _ _ _ _ hu)
  ·cases h
 ·simp only[cz] at h
  cases hm.zo
  cases aL.zo;subst h
  split at R<;>first|(exfalso;simp at R;done)|(rename_i hu;rw[run_equalIn_string w d t _ _ hu];simp)
 ·cases h
theorem agc {t:TypeId}{k:Nat}(h:Fe P t=some k):(isAgg t).run P w=.ok false w:=by
 unfold Fe at h
 split at h<;>simp only[cz,reduceCtorEq] at h<;>(rename_i hu;simp[isAgg,run_underlying hu])
theorem WI {d:Nat}{xs ys:Array Value}{cs ds:List O}(I:∀(i:Nat) (m:O) (v:Value),cs[i]?=some m->xs[i]?=some v->bA w aS B m v)(pR:xs.size=o cs)
  (ak:∀(i:Nat) (m:O) (v:Value),ds[i]?=some m->ys[i]?=some v->bA w aS B m v) (WJ:ys.size=o ds) :
  ∀(dz:List Field) (i:Nat) (fX:List Nat) (c:Bool),BL P i dz=some fX->xu fX (cs.drop i) (ds.drop i)=some c->(Op.eqFields (d+1) xs ys dz).run P w=.ok c w
 | [],i,fX,c,aN,E=>by
  simp[BL] at aN;subst aN
  cases D:cs.drop i<;>cases G:ds.drop i<;>simp[D,G,xu] at E;subst E;simp[Op.eqFields]
 |f::r,i,fX,c,aN,E=>by
  simp only[BL] at aN
  split at aN
  ·rename_i aL;obtain⟨oO,pS⟩:=aL
   split at aN
   ·rename_i k agd R nf
    cases aN
    cases D:cs.drop i with
    |nil=>simp[D,xu] at E
    |cons a x =>
     cases G:ds.drop i with
     |nil=>simp[D,G,xu] at E
     |cons b y =>
      rw[D,G] at E;simp only[xu] at E
      split at E
      ·rename_i bm bN kt xy
       cases E
       have vK:i<o cs:=by
        rcases h1 i (o cs) with h|h
        ·exact h
        ·rw[s4 h] at D;cases D
       have rP:i<o ds:=by
        rcases h1 i (o ds) with h|h
        ·exact h
        ·rw[s4 h] at G;cases G
       rw[iI vK] at D;rw[iI rP] at G
       injection D with aM age
       injection G with ah agf
       subst aM;subst ah;subst age;subst agf
       have ex:xs[f.offset]?=some (xs[i]'(by omega)):=by rw[pS];exact Array.getElem?_eq_getElem (by omega)
       have zp:ys[f.offset]?=some (ys[i]'(by omega)):=by rw[pS];exact Array.getElem?_eq_getElem (by omega)
       have rx:=I i _ _ (bL vK) (Array.getElem?_eq_getElem (by omega:i<xs.size));have agh:=ak i _ _ (bL rP) (Array.getElem?_eq_getElem (by omega:i<ys.size));have he:=agb (P:=P) d R rx agh kt;have aA:=WI (d:=d) I pR ak WJ r (i+1) agd bN nf xy;have agi:(isAgg f.type).run P w=.ok false w:=agc R;simp only[Op.eqFields,oO,ne_eq,not_false_eq_true,if_true,Sem.run_bind,part,agi,Result.andThen_ok,kc,if_false,ex,zp,Sem.run_pure,he]
       cases bm
       ·simp
       ·simp[aA]
      ·cases E
   ·cases aN
  ·cases aN
theorem WK {m:O}{v:Value}(h:bA w aS B m v)(D:m.one=true):v.oneCell'=true:=by
 cases h with
 |J ae=>cases ae<;>first|rfl|simp[O.one] at D
 |nil=>rfl
 |ref he bw ad=>obtain⟨a,cap,rfl,_⟩:=ad;rfl
 |ptr he bw ad=>obtain⟨b,rfl,_⟩:=ad;rfl
 |e5 ax ae=>rfl
 |agg ax ae=>simp[O.one] at D
 |cQ ax ae=>simp[O.one] at D
 |no=>simp[O.one] at D
 |undef=>simp[O.one] at D
theorem agj {v:Value}(h:∀c,v ≠ .agg c):v.cells=#[v]:=by
 unfold Value.cells
 split
 ·rename_i cs;exact absurd rfl (h cs)
 ·rfl
theorem agk {m:O}{v:Value}(h:bA w aS B m v)(hu:m ≠ .undef):v.cells.size=o m.cells/\∀(i:Nat) (c:O) (u:Value),m.cells[i]?=some c->v.cells[i]?=some u->bA w aS B c u:=by
 have one:(∀c,v ≠ .agg c)->m.cells=[m]->v.cells.size=o m.cells/\∀(i:Nat) (c:O) (u:Value),m.cells[i]?=some c->v.cells[i]?=some u->bA w aS B c u:=by
  intro ad hm;rw[hm,agj ad];refine⟨rfl,λi c u E hu=>?_⟩
  cases i with
  |zero=>simp at E hu;subst E;subst hu;exact h
  |succ i=>simp at E
 cases h with
 |J ae =>
  cases ae with
  |agg ax ae =>
   refine⟨by simp[Value.cells,O.cells];exact ax,λi c u E hu=>?_⟩
   simp only[O.cells,bb,dI] at E;obtain⟨d,mg,rfl⟩:=E;exact .J (ae i d u mg (by simpa [Value.cells] using hu))
  |_=>exact one (by simp) rfl
 |nil=>exact one (by simp) rfl
 |ref he bw ad=>obtain⟨a,cap,rfl,_⟩:=ad;exact one (by simp) rfl
 |ptr he bw ad=>obtain⟨b,rfl,_⟩:=ad;exact one (by simp) rfl
 |e5 ax ae=>exact one (by simp) rfl
 |agg ax ae =>
  refine⟨by simp[Value.cells,O.cells];exact ax,λi c u E hu=>ae i c u (by simpa [O.cells] using E) (by simpa [Value.cells] using hu)⟩
 |cQ ax ae=>exact one (by simp) rfl
 |no=>exact one (by simp[undef]) rfl
 |undef=>exact absurd rfl hu
end
section
variable {P:Program} {w:World} {aS:Nat->Prop} {B:Lay}
def db (w:World)(aS:Nat->Prop)(B:Lay)(cs:List O)(vs:List Value):Prop :=
 (o vs)=o cs/\∀(i:Nat) (m:O) (v:Value),cs[i]?=some m->vs[i]?=some v->bA w aS B m v
theorem db.get {cs:List O}{vs:List Value}(h:db w aS B cs vs){i:Nat}{m:O}(Q:cs[i]?=some m):∃v,vs[i]?=some v/\bA w aS B m v:=by
 have ax:i<o cs:=(ef.1 Q).1;have ad:vs[i]?=some (vs[i]'(by rw[h.1];exact ax)):=bL _;exact⟨_,ad,h.2 i m _ Q ad⟩
theorem db.nil:db w aS B [] []:=⟨rfl,λi m v h=>by simp at h⟩
theorem db.cons {m:O}{v:Value}{cs:List O}{vs:List Value}(h:bA w aS B m v)(U:db w aS B cs vs):db w aS B (m::cs) (v::vs):=by
 refine⟨by simp[U.1],λi m' zq D G=>?_⟩
 cases i with
 |zero=>simp at D G;subst D;subst G;exact h
 |succ i=>exact U.2 i m' zq (by simpa using D) (by simpa using G)
theorem db.append {a b:List O}{x y:List Value}(h:db w aS B a x)(cu:db w aS B b y):db w aS B (a++b) (x++y):=by
 refine⟨by simp[h.1,cu.1],λi m v D G=>?_⟩
 rw[BS] at D G
 split at D
 ·rename_i Q;rw[aj (by rw[h.1];exact Q)] at G;exact h.2 i m v D G
 ·rename_i Q;rw[aq (by rw[h.1];exact Q),h.1] at G;exact cu.2 _ m v D G
theorem db.drop {a:List O}{x:List Value}(h:db w aS B a x)(n:Nat):db w aS B (a.drop n) (x.drop n) :=
 ⟨by simp[h.1],λi m v D G=>h.2 (n+i) m v (by simpa using D) (by simpa using G)⟩
theorem db.take {a:List O}{x:List Value}(h:db w aS B a x)(n:Nat):db w aS B (a.take n) (x.take n):=by
 refine⟨by simp[h.1],λi m v D G=>?_⟩
 rw[vL] at D G
 split at D
 ·rename_i Q;rw[aj Q] at G;exact h.2 i m v D G
 ·cases D
theorem db.j9 {a b:List O}{x y:List Value}(h:db w aS B a x)(cu:db w aS B b y)(off:Nat):
  db w aS B (j9 a off b) (x.take off++y++x.drop (off+o y)):=by
 unfold Mini.j9;rw[cu.1];exact ((h.take off).append cu).append (h.drop _)
theorem db.Ng {m:O}{v:Value}(h:bA w aS B m v)(hu:m ≠ .undef):db w aS B m.cells v.cells.toList:=by
 obtain⟨D,G⟩:=agk h hu;exact⟨by simpa using D,λi c u E ad=>G i c u E (by simpa using ad)⟩
theorem db.J {ds:List Data}{vs:List Value}(ax:(o vs)=o ds)(h:∀(i:Nat) (d:Data) (v:Value),ds[i]?=some d->vs[i]?=some v->Den w aS d v):db w aS B (ds.map .J) vs:=by
 refine⟨by simp[ax],λi m v D G=>?_⟩
 simp only[bb,dI] at D;obtain⟨d,ae,rfl⟩:=D;exact .J (h i d v ae G)
theorem BT {cs:List O}{off n:Nat}{r:List O}(h:cut cs off n=some r):off+n<=o cs/\r=(cs.drop off).take n/\o r=n:=by
 unfold cut at h
 split at h
 ·rename_i ax
  cases h;exact⟨ax,rfl,by simp;omega⟩
 ·cases h
def At (w:World)(b off:Nat)(vs:List Value):Prop:=∀(j:Nat) (u:Value),vs[j]?=some u->w.cell? ⟨b,off+j,none⟩=some u
theorem At.add {w:World}{b off:Nat}{vs:List Value}(h:At w b off vs)(n:Nat):At w b (off+n) (vs.drop n):=λj u ay=>by
 have:=h (n+j) u (by simpa using ay);rwa [<-nZ] at this
theorem At.take {w:World}{b off:Nat}{vs:List Value}(h:At w b off vs)(n:Nat):At w b off (vs.take n):=λj u ay=>by
 rw[vL] at ay
 split at ay
 ·exact h j u ay
 ·cases ay
theorem At.row {w:World}{b:Nat}{vs:Array Value}{T:TypeId}{aC:Nat×Nat}(h:w.heap[b]?=some (.cells vs T aC)):At w b 0 vs.toList:=λj u ay=>by
 rw[ku,cell_of_row w b j vs T aC h]
 simpa using ay
theorem vM (b off n:Nat):(⟨b,off,none⟩:Addr).add n=⟨b,off+n,none⟩:=by
 unfold Addr.add
 split<;>simp_all
theorem At.load {b off:Nat}{vs:List Value}(h:At w b off vs):(loadCells ⟨b,off,none⟩ (o vs)).run P w=.ok vs.toArray w :=
 run_loadCells_list w _ vs λj v ay=>by rw[vM];exact h j v ay
theorem rQ {t:TypeId}{n:Nat}(h:fF P t=some n):(sizeOf t).run P w=.ok n w:=by
 simp only[fF,dI] at h;obtain⟨i,Q,rfl⟩:=h;simp[sizeOf,typeInfo,Q]
theorem Jc {t:TypeId}{g:Bool}(h:vG P t=some g):(isAgg t).run P w=.ok g w:=by
 simp only[vG,dI] at h;obtain⟨d,ae,rfl⟩:=h;simp only[isAgg,Sem.run_bind,run_underlying ae,Result.andThen_ok]
 cases d<;>rfl
theorem WL {t:TypeId}{n:Nat}{dE:Bool}{b off:Nat}{ms:List O}{vs:List Value}{r:O}(aa:fF P t=some n)(aM:vG P t=some dE)(ax:(o ms)=n)
  (cK:db w aS B ms vs) (g7:At w b off vs) (h:oJ dE ms=some r):∃u,(loadVar t ⟨b,off,none⟩).run P w=.ok u w/\bA w aS B r u:=by
 unfold oJ at h
 split at h
 ·rename_i vN
  cases h;subst vN;refine⟨.agg vs.toArray,?_,.agg cK.1 cK.2⟩;have:=g7.load (P:=P);rw[cK.1,ax] at this;simp[loadVar,Jc aM,rQ aa,this]
 ·rename_i vN
  split at h
  ·cases h;obtain⟨u,hu,U⟩:=cK.get (i:=0) (m:=r) rfl;have:=g7 0 u hu;have Nh:dE=false:=by simpa using vN
   subst Nh;exact⟨u,by simp[loadVar,Jc aM,this];simpa using by rw[show off=off+0 from rfl,this],U⟩
  ·cases h
end
section
variable {P:Program} {A:Nat->Prop} {w:World} {B:Lay} {mem:Mem}
theorem eK.at_ (h:eK A w B mem){k:Key}{g:Nat}{cs:List O}(R:mem k=some (g,cs)):
  ∃e,B k=some e/\e.g=g/\(e.dc=none->cs=[])/\∀b,e.dc=some b->∃(vs:Array Value) (T:TypeId),w.heap[b]?=some (.cells vs T (0,0))/\vs.size=e.size/\o cs<=vs.size /\
   db w (ca A B) B cs (vs.toList.take (o cs)):=by
 obtain⟨e,he,bw,aL,ah⟩:=h.dc k g cs R;refine⟨e,he,bw,aL,λb ij=>?_⟩;obtain⟨vs,T,D,G,ag,aR⟩:=ah b ij;refine⟨vs,T,D,G,ag,by simp;omega,λi m v hm ad=>?_⟩
 obtain⟨u,hu,U⟩:=aR i m hm;rw[vL] at ad
 split at ad
 ·rw[Array.getElem?_toList,hu] at ad
  cases ad;exact U
 ·cases ad
theorem WM {n:Nat}{dE:Bool}{m r:O}{v:Value}(bY:eK A w B mem)(ad:bA w (ca A B) B m v)(h:nU mem n dE m=some r):
  ∃b off ms vs,v=.pointer (some ⟨b,off,none⟩)/\o ms=n/\db w (ca A B) B ms vs/\At w b off vs/\oJ dE ms=some r:=by
 unfold nU at h
 split at h
 ·rename_i k g off
  split at h
  ·rename_i c4 cs R
   split at h
   ·rename_i bw;subst bw;simp only[dQ] at h;obtain⟨ms,aY,U⟩:=h;obtain⟨ax,rfl,aL⟩:=BT aY;obtain⟨e,he,cb,BU,ah⟩:=bY.at_ R
    cases ad with
    |ptr fy BQ lk =>
     rw[he] at fy
     cases fy;obtain⟨b,rfl,ij⟩:=lk;have ij:=ij cb.symm;obtain⟨vs,T,a6,a8,hle,cK⟩:=ah b ij;refine⟨b,off,_,((vs.toList.take (o cs)).drop off).take n,rfl,aL,(cK.drop off).take n,?_,U⟩;have:=(((At.row a6).take (o cs)).add off).take n
     simpa using this
   ·cases h
  ·cases h
 ·rename_i ds;simp only[dQ] at h;obtain⟨ms,aY,U⟩:=h;obtain⟨ax,rfl,aL⟩:=BT aY
  cases ad with
  |J ae =>
   cases ae with
   | @ptr cs b off val ah fo E ae =>
    refine⟨b,off,_,((hR (o ds)).map val).take n,rfl,aL,?_,?_,U⟩
    ·have:db w (ca A B) B (ds.map .J) ((hR (o ds)).map val):=db.J (by simp) λi d v D G=>by
      have Q:i<o ds:=(ef.1 D).1;simp[Q] at G;subst G;exact ae i d D
     simpa using this.take n
    ·refine At.take (λj u ay=>?_) n;simp only[bb,dI] at ay;obtain⟨ka,ng,rfl⟩:=ay
     have D:ka=j/\j<o ds:=by
      rcases h1 j (o ds) with h|h
      ·rw[s5 h] at ng;exact⟨by simpa using ng.symm,h⟩
      ·rw[nh (by simpa using h)] at ng
       cases ng
     obtain⟨rfl,ik⟩:=D;exact E ka ik
 ·cases h
theorem agl {t:TypeId}{n:Nat}{dE:Bool}{m r:O}{v:Value}(aa:fF P t=some n)(aM:vG P t=some dE)(bY:eK A w B mem)(ad:bA w (ca A B) B m v)(h:nU mem n dE m=some r):
  ∃u,(Instr.loadAt t v).run P w=.ok u w/\bA w (ca A B) B r u:=by
 obtain⟨b,off,ms,vs,rfl,ax,cK,g7,U⟩:=WM bY ad h;obtain⟨u,D,G⟩:=WL (P:=P) aa aM ax cK g7 U;exact⟨u,by simpa [Instr.loadAt,Instr.sureAddr] using D,G⟩
end
section
variable {P:Program} {w:World} {aS:Nat->Prop} {B:Lay}
theorem WN {m:O}{cs:List O}{v:Value}(h:EN m=some cs)(ad:bA w aS B m v):∃vs:List Value,v=.agg vs.toArray/\db w aS B cs vs:=by
 unfold EN at h
 split at h
 ·cases h
  cases ad with
  |agg ax ae=>exact⟨_,rfl,ax,ae⟩
 ·cases h
  cases ad with
  |J ae =>
   cases ae with
   |agg ax ae=>exact⟨_,rfl,db.J ax ae⟩
 ·cases h
theorem WO {neg:Bool}{fX:List Nat}{m n r:O}{u v:Value}(t:TypeId)(x y:Operand)(dz:Array Field)(hu:P.underlying t=some (.struct dz))(aa:P.stoodInHeld t=false)
  (bw:P.eqGuardType P.depth t=false) (R:BL P 0 dz.toList=some fX) (hm:bA w aS B m u) (aL:bA w aS B n v) (h:EO neg fX m n=some r) :
  ∃z,((do eqGuard (if neg then .neq else .eql) t x y u v;binOp (if neg then .neq else .eql) t u v:Sem Value)).run P w=.ok z w/\bA w aS B r z:=by
 unfold EO at h
 split at h
 ·rename_i cs ds kP gh
  split at h
  ·rename_i c E
   cases h;obtain⟨xs,rfl,I⟩:=WN kP hm;obtain⟨ys,rfl,ak⟩:=WN gh aL;have BV:P.fieldsOf t=dz:=by simp[Program.fieldsOf,hu]
   have he:=run_equalIn_struct (P:=P) w 9999 t xs.toArray ys.toArray (by rw[BV];exact hu) aa;rw[BV] at he
   have aN:=WI (P:=P) (w:=w) (aS:=aS) (B:=B) (d:=9998) (xs:=xs.toArray) (ys:=ys.toArray) (cs:=cs) (ds:=ds)
    (λi m v D G=>I.2 i m v D (by simpa using G)) (by simpa using I.1) (λi m v D G=>ak.2 i m v D (by simpa using G)) (by simpa using ak.1) dz.toList 0 fX c R (by simpa using E)
   have heq:(Op.equal t (.agg xs.toArray) (.agg ys.toArray)).run P w=.ok c w:=by
    show (Op.equalIn (9999+1) t _ _).run P w=_;rw[he];exact aN
   have s6:∀op,(op=BinOp.eql\/op=.neq)->(eqGuard op t x y (.agg xs.toArray) (.agg ys.toArray)).run P w=.ok () w:=by
    intro op kQ;rcases kQ with rfl|rfl<;>simp[eqGuard,bw]
   refine⟨.bool (neg != c),?_,.J .bool⟩
   cases neg
   ·simp only[kc,if_false,Sem.run_bind,s6 _ (.inl rfl),Result.andThen_ok];show (do pure (Value.bool (<-Op.equal t (.agg xs.toArray) (.agg ys.toArray))):Sem Value).run P w=_
    simp[heq]
   ·simp only[if_true,Sem.run_bind,s6 _ (.inr rfl),Result.andThen_ok];show (do pure (Value.bool (!(<-Op.equal t (.agg xs.toArray) (.agg ys.toArray)))):Sem Value).run P w=_
    simp[heq]
  ·cases h
 ·cases h
theorem agm {c a b r:O}{WQ rR pT:Value}(E:bA w aS B c WQ)(aM:bA w aS B a rR)(ah:bA w aS B b pT)(h:BD c a b=some r):
  ∃z,(do pure (if <-asBool WQ then rR else pT):Sem Value).run P w=.ok z w/\bA w aS B r z:=by
 unfold BD at h
 split at h
 ·rename_i t
  cases E.zn
  cases t
  ·cases h;exact⟨pT,by simp[asBool],ah⟩
  ·cases h;exact⟨rR,by simp[asBool],aM⟩
 ·cases h
theorem agn {op:UnOp}{m r:O}{v:Value}(hm:bA w aS B m v)(h:EL op m=some r):∃z,(Op.unary op v).run P w=.ok z w/\bA w aS B r z:=by
 unfold EL at h
 split at h
 ·cases h;cases hm.uz;exact⟨_,by simp[Op.unary,Op.intArith],.J .int⟩
 ·cases h;cases hm.uz;exact⟨_,by simp[Op.unary,go_sem],.J .int⟩
 ·cases h;cases hm.zn;exact⟨_,by simp[Op.unary],.J .bool⟩
 ·cases h
theorem ago {k:IntKind}{m r:O}{v:Value}(s t:TypeId)(fX:IntKind)(aa:P.underlying s=some (.int fX))(bV:P.underlying t=some (.int k))(hm:bA w aS B m v)(h:EP k m=some r):
  ∃z,(convert s t v).run P w=.ok z w/\bA w aS B r z:=by
 unfold EP at h
 split at h
 ·cases h
  cases hm.uz;have Q:P.intKind t=k:=by simp[Program.intKind,bV]
  have:=run_convert_int (P:=P) w s t;exact⟨.int k _,by simp[convert,run_underlying aa,run_underlying bV,Conv.intToInt],.J .int⟩
 ·cases h
theorem agp {off:Nat}{m r:O}{v:Value}(t:TypeId)(f:Nat)(dz:Array Field)(fd:Field)(s:Nat)(hu:P.underlying t=some (.struct dz))(aN:dz[f]?=some fd)(aa:fF P fd.type=some s)(au:0<s)
  (bM:fd.offset=off) (hm:bA w aS B m v) (h:ES off m=some r):∃z,(Instr.fieldAt t v f).run P w=.ok z w/\bA w aS B r z:=by
 have bZ:¬ s=0:=by omega
 have run:∀b ar,(Instr.fieldAt t (.pointer (some ⟨b,ar,none⟩)) f).run P w=.ok (.pointer (some ⟨b,ar+off,none⟩)) w:=by
  intro b ar;simp[Instr.fieldAt,run_underlying hu,aN,Instr.sureAddr,fieldPlace,rQ aa,bZ,vM,bM]
 unfold ES at h
 split at h
 ·cases h;rename_i k g ar
  cases hm with
  |ptr he bw ad =>
   obtain⟨b,rfl,ah⟩:=ad;exact⟨_,run b ar,.ptr he bw ⟨b,rfl,ah⟩⟩
 ·rename_i ds
  split at h
  ·rename_i ax
   cases h
   cases hm with
   |J ae =>
    cases ae with
    | @ptr cs b ar val ah fo E ae =>
     refine⟨_,run b ar,.J (.ptr (λi=>val (off+i)) ah fo (λi Q=>?_) λi d lU=>ae _ d (by simpa using lU))⟩;have:=E (off+i) (by simp at Q;omega);rwa [<-nZ] at this
  ·cases h
 ·cases h
theorem agq {t:TypeId}{n off:Nat}{dE:Bool}{cs ms:List O}{vs:List Value}{r:O}(aa:fF P t=some n)(aM:vG P t=some dE)(cK:db w aS B cs vs)(E:cut cs off n=some ms)(h:oJ dE ms=some r):
  ∃u,(part t vs.toArray off).run P w=.ok u w/\bA w aS B r u:=by
 obtain⟨ax,rfl,aL⟩:=BT E;have aZ:=(cK.drop off).take n;unfold oJ at h
 split at h
 ·rename_i vN
  cases h;subst vN;refine⟨.agg ((vs.drop off).take n).toArray,?_,.agg aZ.1 aZ.2⟩
  have e:vs.toArray.extract off (off+n)=((vs.drop off).take n).toArray:=by
   simp[List.extract_eq_take_drop]
  simp[part,Jc aM,rQ aa,e]
 ·rename_i vN;have Nh:dE=false:=by simpa using vN
  subst Nh
  split at h
  ·rename_i m aY
   cases h
   have Q:cs[off]?=some r:=by
    have:=congrArg (λl=>l[0]?) aY;simp[vL] at this;exact this.2
   obtain⟨u,hu,agr⟩:=cK.get Q;exact⟨u,by simp[part,Jc aM,hu],agr⟩
  ·cases h
theorem ags {off n:Nat}{dE:Bool}{m r:O}{v:Value}(t:TypeId)(f:Nat)(dz:Array Field)(fd:Field)(hu:P.underlying t=some (.struct dz))(aN:dz[f]?=some fd)(aa:fF P fd.type=some n)
  (aM:vG P fd.type=some dE) (bM:fd.offset=off) (hm:bA w aS B m v) (h:ET off n dE m=some r):∃z,(Instr.field t v f).run P w=.ok z w/\bA w aS B r z:=by
 subst bM
 have go:∀(cs:List O) (vs:List Value),db w aS B cs vs->(cut cs fd.offset n).bind (oJ dE)=some r->∃z,(Instr.field t (.agg vs.toArray) f).run P w=.ok z w/\bA w aS B r z:=by
  intro cs vs cK a6;simp only[dQ] at a6;obtain⟨ms,D,G⟩:=a6;obtain⟨u,ag,aR⟩:=agq (P:=P) aa aM cK D G;exact⟨u,by simp[Instr.field,run_underlying hu,aN,asAgg,ag],aR⟩
 unfold ET at h
 split at h
 ·cases hm with
  |agg ax ae=>exact go _ _ ⟨ax,ae⟩ h
 ·cases hm with
  |J ae =>
   cases ae with
   |agg ax ae=>exact go _ _ (db.J ax ae) h
 ·cases h
theorem BW {m:O}{n:Nat}{v:Value}(h:idx m=some n)(ad:bA w aS B m v):∃k,v=.int k (n:Int):=by
 unfold idx at h
 split at h
 ·rename_i k i
  split at h
  ·rename_i au
   cases h
   cases ad.uz;exact⟨k,by rw[Int.toNat_of_nonneg au]⟩
  ·cases h
 ·cases h
theorem BB.at_ {e:ks}{g sz off len:Nat}{v:Value}(h:BB e g sz off len v)(au:0<len):∃b cap,v=.slice (some ⟨b,off,none⟩) len cap/\len<=cap/\cap<=maxLen/\(g=e.g->e.dc=some b/\off+cap*sz<=e.size):=by
 obtain⟨a,cap,rfl,G,ag,aR⟩:=h;rcases aR with aR|⟨b,rfl,bs⟩
 ·omega
 ·exact⟨b,cap,rfl,G,ag,bs⟩
theorem agt {es:List (List Data)}{sz:Nat}(eu:∀e∈es,o e=sz):∀(n i:Nat) (e:List Data),es[n]?=some e->i<sz->es.flatten[n*sz+i]?=e[i]?:=by
 induction es with
 |nil=>intro n i e h;simp at h
 |cons a r aA =>
  intro n i e h Q;have aM:=eu a (by simp)
  cases n with
  |zero =>
   simp at h;subst h;rw[j8,uA (by omega)];simp
  |succ n =>
   rw[j8,WR (by rw[aM,qD];omega)];have:=aA (λx I=>eu x (by simp[I])) n i e (by simpa using h) Q;rw[<-this,aM]
   congr 1
   rw[qD];omega
theorem agu {sz n:Nat}{m r:O}{v:Value}{k:IntKind}(t e:TypeId)(hu:P.underlying t=some (.slice e))(aa:fF P e=some sz)(hm:bA w aS B m v)(h:EU sz n m=some r):
  ∃z,(Instr.indexAt t v (.int k (n:Int))).run P w=.ok z w/\bA w aS B r z:=by
 have run:∀b off len cap,n<len->(Instr.indexAt t (.slice (some ⟨b,off,none⟩) len cap) (.int k (n:Int))).run P w=.ok (.pointer (some ⟨b,off+n*sz,none⟩)) w:=by
  intro b off len cap az;simp[Instr.indexAt,run_underlying hu,asIntOf,az,rQ aa,vM]
 unfold EU at h
 split at h
 ·split at h
  ·rename_i ax;obtain⟨az,rfl⟩:=ax
   cases h
   cases hm with
   |ref he bw ad =>
    obtain⟨b,cap,rfl,D,G,ag⟩:=ad.at_ (by omega);exact⟨_,run _ _ _ _ az,.ptr he bw ⟨b,rfl,λh=>(ag h).1⟩⟩
  ·cases h
 ·rename_i es
  split at h
  ·rename_i el Fg
   split at h
   ·rename_i hle
    cases h
    cases hm with
    |J ae =>
     have az:n<o es:=(ef.1 Fg).1
     cases ae with
     |j7=>simp at az
     | @X es b off c dZ val ax WS ah fo eu E ae =>
      have Fh:dZ=sz:=by rw[<-hle];exact (eu _ (eN Fg)).symm
      subst Fh
      have hmul:n*dZ+dZ<=o es*dZ:=by
       have:(n+1)*dZ<=o es*dZ:=rS _ az;rwa [nS,sV] at this
      refine⟨_,run _ _ _ _ az,.J (.ptr (λi=>val (n*dZ+i)) ah fo (λi Q=>?_) λi d lU=>?_)⟩
      ·have:=E (n*dZ+i) (by omega);rwa [<-nZ] at this
      ·refine ae _ d ?_;rw[agt eu n i el Fg (by have:=(ef.1 lU).1;omega)];exact lU
   ·cases h
  ·cases h
 ·cases h
theorem agv {len sz n:Nat}{m r:O}{v:Value}{k:IntKind}(t e:TypeId)(hu:P.underlying t=some (.array len e))(aa:fF P e=some sz)(hm:bA w aS B m v)(h:EV len sz n m=some r):
  ∃z,(Instr.indexAt t v (.int k (n:Int))).run P w=.ok z w/\bA w aS B r z:=by
 have run:∀b off,n<len->(Instr.indexAt t (.pointer (some ⟨b,off,none⟩)) (.int k (n:Int))).run P w=.ok (.pointer (some ⟨b,off+n*sz,none⟩)) w:=by
  intro b off az;simp[Instr.indexAt,run_underlying hu,asIntOf,Instr.sureAddr,az,rQ aa,vM]
 unfold EV at h
 split at h
 ·split at h
  ·rename_i az
   cases h
   cases hm with
   |ptr he bw ad =>
    obtain⟨b,rfl,ah⟩:=ad;exact⟨_,run _ _ az,.ptr he bw ⟨b,rfl,ah⟩⟩
  ·cases h
 ·rename_i ds
  split at h
  ·rename_i ax;obtain⟨az,hle⟩:=ax
   cases h
   cases hm with
   |J ae =>
    cases ae with
    | @ptr cs b ar val ah fo E ae =>
     refine⟨_,run _ _ az,.J (.ptr (λi=>val (n*sz+i)) ah fo (λi Q=>?_) λi d lU=>ae _ d (by simpa using lU))⟩;have:=E (n*sz+i) (by simp at Q;omega);rwa [<-nZ] at this
  ·cases h
 ·cases h
theorem agw {n:Nat}{m r:O}{v:Value}{k:IntKind}(t:TypeId)(hu:P.underlying t=some .string)(hm:bA w aS B m v)(h:EW n m=some r):
  ∃z,(Instr.index t v (.int k (n:Int))).run P w=.ok z w/\bA w aS B r z:=by
 unfold EW at h
 split at h
 ·rename_i s;simp only[dI] at h;obtain⟨b,ah,rfl⟩:=h
  cases hm.zo;have az:n<o s:=(ef.1 ah).1
  have e:(ByteArray.mk s.toArray)[n]?=some b:=by
   rw[ByteArray.getElem?_lt' _ _ (by simpa [ByteArray.size] using az)];have:=(ef.1 ah).2;simp only[cz];rw[<-this]
   rfl
  exact⟨.int .u8 b.toNat,by simp[Instr.index,run_underlying hu,asIntOf,e],.J .int⟩
 ·cases h
theorem agx {i:Nat}{m r:O}{v:Value}(hm:bA w aS B m v)(h:E0 i m=some r):∃z,(Instr.extract v i).run P w=.ok z w/\bA w aS B r z:=by
 unfold E0 at h
 split at h
 ·cases hm with
  |cQ ax ae =>
   obtain⟨u,hu,U⟩:=db.get ⟨ax,ae⟩ h;exact⟨u,by simp[Instr.extract,hu],U⟩
 ·simp only[dI] at h;obtain⟨d,mg,rfl⟩:=h
  cases hm with
  |J ae =>
   cases ae with
   |cQ ax ae =>
    obtain⟨u,hu,U⟩:=db.get (db.J ax ae) (i:=i) (m:=.J d) (by simp[mg]);exact⟨u,by simp[Instr.extract,hu],U⟩
 ·cases h
theorem agy {m:O}{n:Nat}{v:Value}(t ty e:TypeId)(bV:P.underlying t=some (.slice e))(hm:bA w aS B m v)(h:rL m=some n):
  (Builtin.len_ #[t] ty #[v]).run P w=.ok (.int .i64 n) w:=by
 have run:∀a c,(Builtin.len_ #[t] ty #[.slice a n c]).run P w=.ok (.int .i64 n) w:=λa c=>by
  simp[Builtin.len_,run_underlying bV,goInt]
 unfold rL at h
 split at h<;>cases h
 ·cases hm with
  |J ae =>
   cases ae with
   |j7=>exact run _ _
   |X=>exact run _ _
 ·cases hm with
  |nil=>exact run _ _
 ·cases hm with
  |ref he bw ad=>obtain⟨a,cap,rfl,_⟩:=ad;exact run _ _
theorem agz {m:O}{n:Nat}{v:Value}(t ty:TypeId)(bV:P.underlying t=some .string)(hm:bA w aS B m v)(h:vE m=some n):
  (Builtin.len_ #[t] ty #[v]).run P w=.ok (.int .i64 n) w:=by
 unfold vE at h
 split at h<;>cases h
 rename_i s
 cases hm.zo;have e:(ByteArray.mk s.toArray).size=o s:=by simp[ByteArray.size]
 simp[Builtin.len_,run_underlying bV,goInt,e]
theorem WT {iG:Bool}{m n r:O}{u v:Value}(qE:Array TypeId)(t:TypeId)(hm:bA w aS B m u)(aL:bA w aS B n v)(h:E1 iG m n=some r):
  ∃z,(if iG=true then Builtin.max_ qE t #[u,v] else Builtin.min_ qE t #[u,v]).run P w=.ok z w/\bA w aS B r z:=by
 unfold E1 at h
 split at h
 ·split at h
  ·rename_i R;subst R
   cases h
   cases hm.uz
   cases aL.uz
   cases iG
   ·exact⟨_,by simp[run_min_int2],.J .int⟩
   ·exact⟨_,by simp[run_max_int2],.J .int⟩
  ·cases h
 ·cases h
theorem agA {m r:O}{v:Value}(hm:bA w aS B m v)(h:ER m=some r):(∃b off,v=.pointer (some ⟨b,off,none⟩))/\bA w aS B r v:=by
 unfold ER at h
 split at h
 ·cases h;refine⟨?_,hm⟩
  cases hm with
  |ptr he bw ad=>obtain⟨b,rfl,_⟩:=ad;exact⟨_,_,rfl⟩
 ·cases h;refine⟨?_,hm⟩
  cases hm with
  |J ae=>cases ae;exact⟨_,_,rfl⟩
 ·cases h
theorem BX {x:O}{n y:Nat}{v:Value}(code:BoundsCode)(I:idx x=some n)(ad:bA w aS B x v)(aL:n<=y):(Instr.sliceBound v y code).run P w=.ok n w:=by
 obtain⟨k,rfl⟩:=BW I ad
 simpa using run_sliceBound (P:=P) w k (n:Int) y code (by omega) (by omega)
def oP (w:World)(aS:Nat->Prop)(B:Lay):Option O->Option Value->Prop
 |none,none=>True
 |some m,some v=>bA w aS B m v
 |_,_=>False
theorem Ni {len cap l h:Nat}{ct Q:Option O}{jm jn:Option Value}(Nj:Bool)(fp:ie 0 ct=some l)(hS:ie len Q=some h)
  (kR:oP w aS B ct jm) (kd:oP w aS B Q jn) (ax:l<=h) (a6:h<=cap):(Instr.sliceBounds Nj len cap jm jn none).run P w=.ok (l,h,cap) w:=by
 unfold Instr.sliceBounds
 cases ct with
 |none =>
  cases jm with
  |some v=>exact kR.elim
  |none =>
   simp[ie] at fp;subst fp
   cases Q with
   |none =>
    cases jn with
    |some v=>exact kd.elim
    |none=>simp[ie] at hS;subst hS;simp
   |some m =>
    cases jn with
    |none=>exact kd.elim
    |some v =>
     have aB:=λcode=>BX (P:=P) (y:=cap) code hS kd a6
     cases Nj<;>simp[aB]
 |some zr =>
  cases jm with
  |none=>exact kR.elim
  |some bl =>
   have aw:=λcode=>BX (P:=P) (y:=h) code fp kR ax
   cases Q with
   |none =>
    cases jn with
    |some v=>exact kd.elim
    |none=>simp[ie] at hS;subst hS;simp[aw]
   |some m =>
    cases jn with
    |none=>exact kd.elim
    |some v =>
     have aB:=λcode=>BX (P:=P) (y:=cap) code hS kd a6
     cases Nj<;>simp[aw,aB]
theorem agB {len cap l h m:Nat}{ct:Option O}{Q iG:O}{jm:Option Value}{jn vO:Value}(fp:ie 0 ct=some l)(hS:idx Q=some h)(hq:idx iG=some m)
  (kR:oP w aS B ct jm) (kd:bA w aS B Q jn) (BZ:bA w aS B iG vO) (ax:l<=h) (a6:h<=m) (hm:m<=cap):(Instr.sliceBounds true len cap jm (some jn) (some vO)).run P w=.ok (l,h,m) w:=by
 have b8:=BX (P:=P) (y:=cap) .slice3Acap hq BZ hm;have aB:=BX (P:=P) (y:=m) .slice3B hS kd a6;unfold Instr.sliceBounds
 cases ct with
 |none =>
  cases jm with
  |some v=>exact kR.elim
  |none =>
   simp[ie] at fp;subst fp;simp[b8,aB]
 |some zr =>
  cases jm with
  |none=>exact kR.elim
  |some bl =>
   have aw:=BX (P:=P) (y:=h) .slice3C fp kR ax;simp[b8,aB,aw]
theorem Jd {m:O}{n:Nat}{v:Value}(hm:bA w aS B m v)(h:rL m=some n):∃a c,v=.slice a n c/\n<=c:=by
 unfold rL at h
 split at h<;>cases h
 ·cases hm with
  |J ae =>
   cases ae with
   |j7=>exact⟨_,_,rfl,by simp⟩
   |X val ax=>exact⟨_,_,rfl,ax⟩
 ·cases hm with
  |nil=>exact⟨_,_,rfl,by simp⟩
 ·cases hm with
  |ref he bw ad=>obtain⟨a,cap,rfl,D,_⟩:=ad;exact⟨_,_,rfl,D⟩
theorem WU {t e:TypeId}{sz l h jP:Nat}{a:Option Addr}{len cap:Nat}{jm jn vO:Option Value}(bV:P.underlying t=some (.slice e))(aa:fF P e=some sz)
  (ah:(Instr.sliceBounds true len cap jm jn vO).run P w=.ok (l,h,jP) w) :
  (Instr.sliceAt t (.slice a len cap) jm jn vO).run P w=.ok (.slice (if jP=l then a else a.map (·.add (l*sz))) (h-l) (jP-l)) w:=by
 simp[Instr.sliceAt,Instr.slice,run_underlying bV,ah,rQ aa]
theorem agC {es:List (List Data)}{sz:Nat}(eu:∀e∈es,o e=sz)(l:Nat):(es.drop l).flatten=es.flatten.drop (l*sz):=by
 induction es generalizing l with
 |nil=>simp
 |cons a r aA =>
  cases l with
  |zero=>simp
  |succ l =>
   have aM:=eu a (by simp);rw[List.drop_succ_cons,aA (λx I=>eu x (by simp[I])) l,j8,List.drop_append,aM];have D:a.drop ((l+1)*sz)=[]:=s4 (by rw[aM,qD];omega);rw[D,List.nil_append]
   congr 1
   rw[qD];omega
theorem agD {es:List (List Data)}{sz:Nat}(eu:∀e∈es,o e=sz)(l:Nat):(es.take l).flatten=es.flatten.take (l*sz):=by
 induction es generalizing l with
 |nil=>simp
 |cons a r aA =>
  cases l with
  |zero=>simp
  |succ l =>
   have aM:=eu a (by simp);rw[List.take_succ_cons,j8,aA (λx I=>eu x (by simp[I])) l,j8,zs,aM];have D:a.take ((l+1)*sz)=a:=du (by rw[aM,qD];omega);rw[D]
   congr 2
   rw[qD];omega
theorem WV {es:List (List Data)}{a:Option Addr}{len c sz l h cc:Nat}(ae:Den w aS (.X es) (.slice a len c))(ax:l<=h)(a6:h<=o es)(eu:0<(o es)->∀e∈es,o e=sz)(E:h-l<=cc):
  l=h\/Den w aS (.X ((es.take h).drop l)) (.slice (a.map (·.add (l*sz))) (h-l) cc):=by
 rcases Je ax with rfl|az
 ·exact .inl rfl
 ·refine .inr ?_
  cases ae with
  |j7=>simp at a6;omega
  | @X es b off c dZ val I9 hm ah fo hsz' rT xz =>
   have hT:0<o es:=by omega
   have Fh:dZ=sz:=by
    have au:=s7 (l:=es) (n:=0) hT;rw[<-hsz' _ au,eu hT _ au]
   subst Fh;have hlen:((es.take h).drop l).length=h-l:=by simp;omega
   have hmul:l*dZ+(h-l)*dZ<=o es*dZ:=by
    rw[<-nS];exact rS _ (by omega)
   have:=Den.X (w:=w) (aS:=aS) (es:=(es.take h).drop l) (b:=b) (off:=off+l*dZ) (c:=cc) (sz:=dZ) (λi=>val (l*dZ+i)) (by rw[hlen];exact E) (by rw[hlen];omega) ah fo
    (λe he=>hsz' e (B0 (List.mem_of_mem_drop he)))
    (λi Q=>by
     rw[hlen] at Q;have:=rT (l*dZ+i) (by omega);rwa [<-nZ] at this)
    (λi d lU=>by
     refine xz _ d ?_;rw[agC (λe he=>hsz' e (B0 he)) l,agD hsz' h] at lU;rw[ll,vL] at lU
     split at lU
     ·exact lU
     ·cases lU)
   rw[hlen] at this
   simpa [vM] using this
end
section
variable {P:Program} {w:World} {aS:Nat->Prop} {B:Lay}
theorem Nk {sz:Nat}{es:List (List Data)}(h:nV sz es=true):∀e∈es,o e=sz:=λe he=>by
 simpa using h2.1 h e he
theorem agE {t e:TypeId}{sz l h len:Nat}{m r:O}{v:Value}{jm jn:Option Value}{ct Q:Option O}(bV:P.underlying t=some (.slice e))(aa:fF P e=some sz)
  (fp:ie 0 ct=some l) (hlen:rL m=some len) (hS:ie len Q=some h) (kR:oP w aS B ct jm) (kd:oP w aS B Q jn) (hm:bA w aS B m v) (U:EX sz l h m=some r) :
  ∃z,(Instr.sliceAt t v jm jn none).run P w=.ok z w/\bA w aS B r z:=by
 obtain⟨a,cap,rfl,B1⟩:=Jd hm hlen
 have run:l<=h->h<=len->(Instr.sliceAt t (.slice a len cap) jm jn none).run P w=.ok (.slice (if cap=l then a else a.map (·.add (l*sz))) (h-l) (cap-l)) w:=λD G =>
  WU bV aa (Ni true fp hS kR kd D (by omega))
 unfold EX at U
 split at U
 ·rename_i es
  split at U
  ·rename_i E;obtain⟨D,G,ag⟩:=E
   cases U;simp only[rL,cz] at hlen;subst hlen;refine⟨_,run D G,.J ?_⟩
   cases hm with
   |J ae =>
    rcases WV (sz:=sz) ae D G (λ_=>Nk ag) (cc:=cap-l) (by omega) with rfl|aG
    ·rw[show ((es.take l).drop l)=[] from by simp]
     rw[xA];exact .j7
    ·rcases Je D with rfl|az
     ·rw[show ((es.take l).drop l)=[] from by simp]
      rw[xA];exact .j7
     ·rw[aq (by omega)];exact aG
  ·cases U
 ·split at U
  ·rename_i E;obtain⟨rfl,rfl⟩:=E
   cases U
   cases hm with
   |nil=>exact⟨_,run (by omega) (by omega),by simpa using bA.nil⟩
  ·cases U
 ·split at U
  ·rename_i k g dZ off agF E;obtain⟨rfl,D,G⟩:=E
   cases U;simp only[rL,cz] at hlen;subst hlen
   cases hm with
   |ref he bw ad =>
    refine⟨_,run D G,.ref he bw ?_⟩;obtain⟨il,avi,kS,lV,avj,agG⟩:=ad
    injection kS with aw aB cI
    subst aw;subst cI
    refine⟨_,cap-l,rfl,by omega,by omega,?_⟩
    rcases jo (cap-l) with au|au
    ·exact .inl au
    ·refine .inr ?_;rcases agG with aR|⟨b,rfl,bs⟩
     ·omega
     ·refine⟨b,by rw[aq (by omega)];simp[vM],λcb=>?_⟩
      obtain⟨b1,cd⟩:=bs cb;refine⟨b1,?_⟩;rw[nZ,<-nS];rwa [show l+(cap-l)=cap from by omega]
  ·cases U
 ·cases U
theorem agH {t e:TypeId}{sz l h jP:Nat}{m r:O}{v:Value}{jm:Option Value}{jn vO:Value}{ct:Option O}{Q iG:O}(bV:P.underlying t=some (.slice e))(aa:fF P e=some sz)
  (fp:ie 0 ct=some l) (hS:idx Q=some h) (hq:idx iG=some jP) (kR:oP w aS B ct jm) (kd:bA w aS B Q jn) (BZ:bA w aS B iG vO) (hm:bA w aS B m v) (U:EY sz l h jP m=some r) :
  ∃z,(Instr.sliceAt t v jm (some jn) (some vO)).run P w=.ok z w/\bA w aS B r z:=by
 have run:∀a len cap,l<=h->h<=jP->jP<=len->len<=cap->(Instr.sliceAt t (.slice a len cap) jm (some jn) (some vO)).run P w=.ok (.slice (if jP=l then a else a.map (·.add (l*sz))) (h-l) (jP-l)) w :=
  λa len cap D G ag aR=>WU bV aa (agB fp hS hq kR kd BZ D G (by omega))
 unfold EY at U
 split at U
 ·rename_i es
  split at U
  ·rename_i E;obtain⟨D,G,ag,aR⟩:=E;obtain⟨a,cap,rfl,B1⟩:=Jd hm (n:=o es) rfl;refine⟨_,run a _ cap D G ag B1,?_⟩
   split at U
   ·rename_i oQ
    cases U;subst oQ;have:h=jP:=by omega
    subst this
    simpa using bA.nil
   ·rename_i oQ
    cases U;rw[aq oQ]
    cases hm with
    |J ae =>
     refine .J ?_;rcases Je D with rfl|az
     ·rw[show ((es.take l).drop l)=[] from by simp]
      rw[xA];exact .j7
     ·rcases WV (sz:=sz) ae D (by omega) (λ_=>Nk aR) (cc:=jP-l) (by omega) with au|aG
      ·omega
      ·exact aG
  ·cases U
 ·split at U
  ·rename_i E;obtain⟨rfl,rfl,rfl⟩:=E
   cases U;obtain⟨a,cap,rfl,B1⟩:=Jd hm (n:=0) rfl;exact⟨_,run a _ cap (by omega) (by omega) (by omega) B1,by simpa using bA.nil⟩
  ·cases U
 ·rename_i k g dZ off len
  split at U
  ·rename_i E;obtain⟨D,G,ag,rfl⟩:=E
   cases U;obtain⟨a,cap,rfl,B1⟩:=Jd hm (n:=len) rfl;have:h=jP:=by omega
   subst this;exact⟨_,run a _ cap (by omega) (by omega) (by omega) B1,by simpa using bA.nil⟩
  ·cases U
 ·cases U
theorem agI {t:TypeId}{l h len:Nat}{m r:O}{v:Value}{jm jn:Option Value}{ct Q:Option O}(bV:P.underlying t=some .string)
  (fp:ie 0 ct=some l) (hlen:vE m=some len) (hS:ie len Q=some h) (kR:oP w aS B ct jm) (kd:oP w aS B Q jn) (hm:bA w aS B m v) (U:EZ l h m=some r) :
  ∃z,(Instr.sliceAt t v jm jn none).run P w=.ok z w/\bA w aS B r z:=by
 unfold EZ at U
 split at U
 ·rename_i s
  split at U
  ·rename_i E;obtain⟨D,G⟩:=E
   cases U;simp only[vE,cz] at hlen;subst hlen
   cases hm.zo;have e:(ByteArray.mk s.toArray).size=o s:=by simp[ByteArray.size]
   have ah:=Ni (P:=P) (w:=w) (aS:=aS) (B:=B) (cap:=o s) false fp hS kR kd D G
   have I:(ByteArray.mk s.toArray).extract l h=⟨((s.take h).drop l).toArray⟩:=by
    rw[ByteArray.extract_mk,WW]
   exact⟨.string ⟨((s.take h).drop l).toArray⟩,by simp[Instr.sliceAt,Instr.slice,run_underlying bV,e,ah,I],.J .str⟩
  ·cases U
 ·cases U
theorem WX (off:Nat):∀(l:List Value) (k:Nat) (cs:Array Value),off+k+o l<=cs.size ->
  (l.zipIdx k).foldl (λ(cs:Array Value) (p:Value×Nat)=>cs.setIfInBounds (off+p.2) p.1) cs=(cs.toList.take (off+k)++l++cs.toList.drop (off+k+o l)).toArray
 | [],k,cs,_=>by simp
 |a::l,k,cs,h=>by
  rw[List.zipIdx_cons,WY];have cu:off+k<cs.size:=by simp at h;omega
  rw[WX off l (k+1) (cs.setIfInBounds (off+k) a) (by simp at h ⊢;omega)];apply Array.ext';simp only[Array.toList_setIfInBounds];have:=list_seg_step cs.toList (off+k) a l (by simp at h ⊢;omega)
  simpa [nZ] using this
theorem Jf {place:Nat->Option (Nat×Nat)}{ρ:Operand->Value}{tm:Nat->O}(hρ:∀x y,dt x=some y->bA w aS B (bf tm y) (ρ x)):
  ∀(ps:List (Nat×Operand)) (eP:List (Nat×Nat×bT)) (cs r:List O) (vs:Array Value),partsOf place ps=some eP->db w aS B cs vs.toList->iZ (bf tm) cs eP=some r ->
   ∃mh:Array Value,Instr.fill place vs (ps.map λp=>(p.1,ρ p.2))=some mh/\db w aS B r mh.toList
 | [],eP,cs,r,vs,aG,cK,h=>by
  simp[partsOf] at aG;subst aG;simp[iZ] at h;subst h;exact⟨vs,rfl,cK⟩
 |(i,x)::ps,eP,cs,r,vs,aG,cK,h=>by
  simp only[partsOf,lT,gv,gF,dQ,cz] at aG;obtain⟨q,aF,agJ,vP,rfl⟩:=aG;obtain⟨⟨ar,s⟩,rU,y,ak,rfl⟩:=aF;simp only[iZ] at h
  split at h
  ·rename_i E;obtain⟨au,D,G⟩:=E;have n0:=hρ x y ak;have agK:bf tm y ≠ .undef:=λe=>by rw[e] at au;simp[O.known] at au
   ·have zt:=db.Ng n0 agK;have eu:(ρ x).cells.size=s:=by have:=zt.1;simp at this;omega
    have Fi:ar+s<=vs.size:=by have:=cK.1;simp at this;omega
    have gG:=WX ar (ρ x).cells.toList 0 vs (by simp[eu];exact Fi);simp only[vQ,Array.length_toList] at gG;have Nl:=cK.j9 zt ar;obtain⟨mh,aN,xB⟩:=Jf hρ ps agJ _ r ((vs.toList.take ar++(ρ x).cells.toList++vs.toList.drop (ar+(ρ x).cells.size)).toArray) vP (by simpa using Nl) h;refine⟨mh,?_,xB⟩;simp only[List.map_cons,Instr.fill,rU];rw[aq (by simp[eu];omega)]
    have a8:(ρ x).cells.zipIdx.foldl (λcs (p:Value×Nat)=>cs.setIfInBounds (ar+p.2) p.1) vs=(vs.toList.take ar++(ρ x).cells.toList++vs.toList.drop (ar+(ρ x).cells.size)).toArray:=by
     rw[<-Array.foldl_toList,Array.toList_zipIdx];exact gG
    rw[<-aN]
    congr 1
  ·cases h
end
section
variable {P:Program} {A:Nat->Prop} {w:World} {B:Lay} {mem:Mem}
theorem zu {aS:Nat->Prop}{t:TypeId}{z:List O}(h:zeroOf P t=some z):∃i hA,P.info? t=some i/\i.zero=some hA/\db w aS B z hA.cells.toList:=by
 simp only[zeroOf,dQ] at h;obtain⟨hA,⟨i,Q,a8⟩,hm⟩:=h;obtain⟨D,G⟩:=me hm;exact⟨i,hA,Q,a8,by simp[D],λj m v agL Fj=>Nf (G j v m Fj agL)⟩
theorem Fk {t:TypeId}{i:TypeInfo}{hA:Value}(Q:P.info? t=some i)(a8:i.zero=some hA):(zeroValue t).run P w=.ok hA w:=by
 simp[zeroValue,typeInfo,Q,a8]
theorem WZ {t:TypeId}{i:TypeInfo}{n:Nat}(Q:P.info? t=some i)(aa:fF P t=some n):i.size=n:=by
 simpa [fF,Q] using aa
theorem W0 {t:TypeId}{i:TypeInfo}{n:Nat}(Q:P.info? t=some i)(aa:BK P t=some n):i.bytes=n:=by
 simpa [BK,Q] using aa
theorem Jg {z:Array Value}(au:0<z.size):∀n,((Array.range (n*z.size)).map (z[·%z.size]!)).toList=(eL n z.toList).flatten
 |0=>by simp
 |n+1=>by
  have aA:=Jg au n;apply pU;intro i
  have aw:∀m i,((Array.range (m*z.size)).map (z[·%z.size]!)).toList[i]?=if i<m*z.size then some (z[i%z.size]!) else none:=by
   intro m i;rw[Array.getElem?_toList,Array.getElem?_map]
   by_cases Q:i<m*z.size
   ·rw[aj Q,Array.getElem?_range];simp[Q]
   ·rw[aq Q,Array.getElem?_range];simp[Q]
  rw[aw,List.replicate_succ',List.flatten_append,BS,<-aA];have el:((Array.range (n*z.size)).map (z[·%z.size]!)).toList.length=n*z.size:=by simp
  rw[el];have hmul:(n+1)*z.size=n*z.size+z.size:=by rw[nS,sV]
  by_cases Q:i<n*z.size
  ·rw[aj Q,aj (by omega),aw,aj Q]
  ·rw[aq Q]
   by_cases rP:i<(n+1)*z.size
   ·rw[aj rP];have az:i-n*z.size<z.size:=by omega
    have Nm:i%z.size=i-n*z.size:=by
     have e:i=(i-n*z.size)+z.size*n:=by have:=Nat.mul_comm n z.size;omega
     have aB:((i-n*z.size)+z.size*n)%z.size=i-n*z.size:=by rw[Nat.add_mul_mod_self_left,Nat.mod_eq_of_lt az]
     rwa [<-e] at aB
    rw[Nm];simp[az]
   ·rw[aq rP]
    symm
    rw[nh];simp;omega
theorem db.replicate {aS:Nat->Prop}{z:List O}{W1:List Value}(h:db w aS B z W1):∀n,db w aS B (eL n z).flatten (eL n W1).flatten
 |0=>by simpa using db.nil
 |n+1=>by
  rw[qF,j8,qF,j8];exact h.append (db.replicate h n)
theorem db.oI {cs:List O}{vs:List Value}{aI:World}{bB:Lay}(t:Trans A w B aI bB)(h:db w (ca A B) B cs vs):db aI (ca A bB) bB cs vs :=
 ⟨h.1,λi m v D G=>(h.2 i m v D G).oI t⟩
theorem Fl {cs:List O}(bY:eK A w B mem)(w1:World)(f:Fr (λ_=>False) w w1)(a8:w1.heap.size=w.heap.size)(k:Key)(vs:Array Value)(T:TypeId)(ax:(o cs)<=vs.size)
  (cK:db w (ca A B) B cs (vs.toList.take (o cs))):ea A w B (w1.alloc (.cells vs T)) (fG B k ⟨b7 mem k,some w.heap.size,vs.size⟩) (bI mem k (b7 mem k) cs) :=
 ea.alloc bY w1 f a8 k vs T ax λi m hm=>by
  obtain⟨v,ad,U⟩:=cK.get hm;rw[vL] at ad
  split at ad
  ·exact⟨v,by simpa using ad,U⟩
  ·cases ad
theorem agM {t:TypeId}{z:List O}(k:Key)(bY:eK A w B mem)(a8:zeroOf P t=some z):
  ∃v aI bB,(Instr.alloc t true (.tuple #[])).run P w=.ok v aI/\ea A w B aI bB (bI mem k (b7 mem k) z)/\bA aI (ca A bB) bB (.ptr k (b7 mem k) 0) v:=by
 obtain⟨i,hA,Q,qG,cK⟩:=zu (P:=P) (w:=w) (B:=B) (aS:=ca A B) a8;have ax:(o z)=hA.cells.size:=by have:=cK.1;simp at this;omega
 refine⟨.pointer (some ⟨w.heap.size,0,none⟩),w.alloc (.cells hA.cells t),_,?_,Fl bY w (Fr.refl _ _) rfl k hA.cells t (by omega) (by rw[du (by simp;omega)];exact cK),?_⟩
 ·simp[Instr.alloc,Fk Q qG,newVar,newRow]
 ·exact .ptr (gE _ _ _) (cA _) ⟨_,rfl,λ_=>rfl⟩
theorem agN {t:TypeId}{m:O}{u:Value}(k:Key)(bY:eK A w B mem)(hu:bA w (ca A B) B m u)(R:m.known=true):
  ∃v aI bB,(Instr.box t u).run P w=.ok v aI/\ea A w B aI bB (bI mem k (b7 mem k) m.cells)/\bA aI (ca A bB) bB (.ptr k (b7 mem k) 0) v:=by
 have cK:=db.Ng hu (λe=>by rw[e] at R;simp[O.known] at R);have ax:(o m.cells)=u.cells.size:=by have:=cK.1;simp at this;omega
 refine⟨.pointer (some ⟨w.heap.size,0,none⟩),w.alloc (.cells u.cells t),_,?_,Fl bY w (Fr.refl _ _) rfl k u.cells t (by omega) (by rw[du (by simp;omega)];exact cK),?_⟩
 ·simp[Instr.box,newVar,newRow]
 ·exact .ptr (gE _ _ _) (cA _) ⟨_,rfl,λ_=>rfl⟩
theorem agO {t e:TypeId}{z:List O}{bytes n c:Nat}{cJ cE:O}{n1 jQ:Value}{r:O}{im:Option (Key×Nat×List O)}(k:Key)(bY:eK A w B mem)(bV:P.underlying t=some (.slice e))(a8:zeroOf P e=some z)(aa:fF P e=some (o z))
  (ah:BK P e=some bytes) (D:idx cJ=some n) (G:idx cE=some c) (fq:bA w (ca A B) B cJ n1) (eV:bA w (ca A B) B cE jQ) (au:0<o z) (h:BF k (b7 mem k) z bytes n c=some (r,im)) :
  ∃v aI bB,(Instr.makeSlice t n1 jQ).run P w=.ok v aI/\ea A w B aI bB (hd mem im)/\bA aI (ca A bB) bB r v:=by
 unfold BF at h
 split at h
 ·rename_i E;obtain⟨rfl,B2,s8⟩:=E
  cases h;obtain⟨dp,rfl⟩:=BW D fq;obtain⟨dN,rfl⟩:=BW G eV;obtain⟨i,hA,Q,qG,cK⟩:=zu (P:=P) (w:=w) (B:=B) (aS:=ca A B) a8;have ax:(o z)=hA.cells.size:=by have:=cK.1;simp at this;omega
  have eu:=WZ Q aa;have Fm:=W0 Q ah
  have kT:=run_make (P:=P) w t e i hA bV Q qG dp dN (n:Int) (n:Int) (by omega) (by omega) (by
   have:((i.bytes*n:Nat):Int)<=281474976710656:=by rw[Fm];omega
   rwa [Int.natCast_mul] at this) (by unfold maxLen at s8;omega)
  simp only[Int.toNat_natCast] at kT
  have W2:(madeCells hA.cells (n*i.size)).toList=(eL n hA.cells.toList).flatten:=by
   rw[eu,ax];exact Jg (by omega) n
  have zv:(madeCells hA.cells (n*i.size)).size=n*o z:=by rw[size_madeCells,eu]
  have xC:=cK.replicate (n:=n)
  have hlen:(eL n z).flatten.length=n*o z:=by
   have:=xC.1;rw[<-this,<-W2,Array.length_toList,zv]
  refine⟨_,_,_,kT,Fl bY w (Fr.refl _ _) rfl k _ e (by rw[zv,hlen];exact cA _) ?_,?_⟩
  ·rw[du (by rw[Array.length_toList,zv,hlen];exact cA _),W2];exact xC
  ·refine .ref (gE _ _ _) (cA _) ⟨_,n,rfl,cA _,s8,.inr ⟨_,rfl,λ_=>⟨rfl,?_⟩⟩⟩;simp only[ku];rw[zv];exact cA _
 ·cases h
theorem Nn (bY:eK A w B mem){k:Key}{g:Nat}{cs new:List O}{e:ks}{b:Nat}{vs:Array Value}{T:TypeId}{vals:List Value}{off:Nat}(R:mem k=some (g,cs))(he:B k=some e)(ah:e.dc=some b)
  (a6:w.heap[b]?=some (.cells vs T (0,0))) (eu:vs.size=e.size) (ax:(o cs)<=vs.size) (cK:db w (ca A B) B cs (vs.toList.take (o cs))) (cb:e.g=g) (Np:off+o new<=o cs) (W3:db w (ca A B) B new vals) :
  ea A w B (w.setRow b (vs.toList.take off++vals++vs.toList.drop (off+o vals)).toArray) B (bI mem k g (j9 cs off new)):=by
 have Nq:(o vals)=o new:=W3.1
 have Nl:db w (ca A B) B (j9 cs off new) ((vs.toList.take off++vals++vs.toList.drop (off+o vals)).take (o cs)):=by
  have D:=cK.j9 W3 off
  have aw:(vs.toList.take (o cs)).take off++vals++(vs.toList.take (o cs)).drop (off+o vals)=(vs.toList.take off++vals++vs.toList.drop (off+o vals)).take (o cs):=by
   have ni:(o vs.toList)=vs.size:=Array.length_toList;rw[List.take_take,mi (by omega),WW,zs,fE,gO,ni,mi (a:=off) (b:=vs.size) (by omega)];rw[du (l:=vs.toList.take off++vals) (by rw[fE,gO,ni];omega)]
  rwa [aw] at D
 have vR:(j9 cs off new).length=o cs:=by unfold j9;simp;omega
 have heq:fG B k e=B:=by
  funext j
  unfold fG
  split
  ·rename_i ay;rw[ay,he]
  ·rfl
 have f:Fr (λb=>∃e,B k=some e/\e.dc=some b) w (w.setRow b (vs.toList.take off++vals++vs.toList.drop (off+o vals)).toArray):=by
  refine⟨rfl,rfl,rfl,by simp,λj ay bM=>?_⟩
  exact setRow_other w b j _ (λJh=>bM ⟨e,he,by rw[ah,Jh]⟩)
 have:=ea.change (k:=k) (e':=e) (cs:=j9 cs off new) bY f (λaB eO => .inl (by rw[he] at eO;exact ln eO)) (λeg e2 => .inr ⟨e,he,e2⟩) (λaL=>by rw[ah] at aL;cases aL) (λeg e2=>by
  rw[ah] at e2
  cases e2;refine⟨_,T,setRow_heap w b vs _ T (0,0) a6,by simp;omega,by rw[vR];simp;omega,λi m hm=>?_⟩
  obtain⟨v,ad,U⟩:=Nl.get hm;rw[vL] at ad
  split at ad
  ·exact⟨v,by simpa using ad,U⟩
  ·cases ad)
 rw[heq,cb] at this;exact this
theorem agP {t:TypeId}{n:Nat}{cJ cE:O}{n1 jQ:Value}{r:O}{im:Option (Key×Nat×List O)}(bY:eK A w B mem)(aa:fF P t=some n)(fq:bA w (ca A B) B cJ n1)(eV:bA w (ca A B) B cE jQ)
  (h:uq mem n cJ cE.cells=some (r,im)):∃aI,(Instr.storeAt t n1 jQ).run P w=.ok () aI/\ea A w B aI B (hd mem im)/\r=.no:=by
 cases cJ with
 |ptr k g off =>
  simp only[uq] at h;unfold E6 at h
  split at h
  ·rename_i c4 cs R
   split at h
   ·rename_i E;obtain⟨rfl,D,G,ag⟩:=E
    cases h;obtain⟨e,he,cb,aL,ah⟩:=bY.at_ R
    cases fq with
    |ptr fy BQ aG =>
     rw[he] at fy
     cases fy;obtain⟨b,rfl,ij⟩:=aG;have ij:=ij cb.symm;obtain⟨vs,T,a6,eu,ax,cK⟩:=ah b ij;have gi:cE ≠ .undef:=λe=>by rw[e] at ag;simp[O.cells,O.one] at ag
     have zt:=db.Ng eV gi
     have agQ:∀v∈jQ.cells.toList,v.oneCell'=true:=by
      intro v ad;obtain⟨i,Q,iq⟩:=W4 ad;have kU:i<o cE.cells:=by rw[<-zt.1];exact Q
      have:=zt.2 i _ _ (bL kU) (bL Q);rw[iq] at this;exact WK this (h2.1 ag _ (s7 kU))
     have avk:jQ.cells.size=n:=by have:=zt.1;simp at this;omega
     have c1:=run_storeCells_at P b off T jQ.cells.toList 0 vs w a6 (by simp;omega) agQ;simp only[vQ] at c1;refine⟨_,?_,Nn bY R he ij a6 eu ax cK cb (by omega) zt,rfl⟩;have bZ:¬ (jQ.cells.size≠n):=by omega
     simp only[Instr.storeAt,Instr.sureAddr,storeVar,Sem.run_bind,Sem.run_pure,Result.andThen_ok,rQ aa];rw[aq bZ];exact c1
   ·cases h
  ·cases h
 |_=>simp[uq] at h
end
section
variable {P:Program} {A:Nat->Prop} {w:World} {B:Lay} {mem:Mem}
theorem Ji (sz:Nat):∀(n:Nat) (l:List Data),(chunk sz n l).length=n
 |0,_=>rfl
 |n+1,l=>by simp[chunk,Ji sz n]
theorem Jj (sz:Nat):∀(n:Nat) (l:List Data),o l=n*sz->∀e∈chunk sz n l,o e=sz
 |0,_,_,e,he=>by simp[chunk] at he
 |n+1,l,ax,e,he=>by
  have hmul:(n+1)*sz=n*sz+sz:=by rw[nS,sV]
  simp only[chunk,List.mem_cons] at he;rcases he with rfl|he
  ·simp;omega
  ·exact Jj sz n _ (by simp;omega) e he
theorem Jk (sz:Nat):∀(n:Nat) (l:List Data),o l=n*sz->(chunk sz n l).flatten=l
 |0,l,ax=>by simp at ax;simp[chunk,ax]
 |n+1,l,ax=>by
  have hmul:(n+1)*sz=n*sz+sz:=by rw[nS,sV]
  simp only[chunk,j8];rw[Jk sz n _ (by simp;omega),List.take_append_drop]
theorem W5 {aS:Nat->Prop}{m:O}{d:Data}{v:Value}(h:rK m=some d)(ad:bA w aS B m v):Den w aS d v:=by
 unfold rK at h
 split at h<;>cases h
 ·cases ad with
  |J h=>exact h
 ·cases ad with
  |nil=>exact .j7
theorem agR {ds:List Data}{vs:Array Value}{T:TypeId}{n sz:Nat}(bY:eK A w B mem)(aI:World)(hw:aI=w.alloc (.cells vs T))(ax:(o ds)=n*sz)(ad:vs.size=n*sz)(hm:n<=maxLen)
  (ae:∀(i:Nat) (d:Data) (v:Value),ds[i]?=some d->vs[i]?=some v->Den w (ca A B) d v):Den aI (ca A B) (.X (chunk sz n ds)) (.slice (some ⟨w.heap.size,0,none⟩) n n):=by
 have ok:ea A w B aI B mem:=by rw[hw];exact .still bY ((Fr.refl _ _).alloc _)
 have eW:=Ji sz n ds
 have h:=Den.X (w:=aI) (aS:=ca A B) (es:=chunk sz n ds) (b:=w.heap.size) (off:=0) (c:=n) (sz:=sz) (λi=>vs.getD i undef) (by rw[eW];exact cA _) (by rw[eW];exact hm)
  (by rw[hw];simp) (λbM=>by
   rcases bM with bM|bM
   ·have:=bY.uo bM;omega
   ·have:=bY.lt _ bM;omega) (Jj sz n ds ax)
  (λi Q=>by
   rw[eW] at Q;rw[hw,ku];have:i<vs.size:=by omega
   simp[this])
  (λi d lU=>by
   rw[Jk sz n ds ax] at lU;have az:i<o ds:=(ef.1 lU).1;have hr:i<vs.size:=by omega
   have:vs.getD i undef=vs[i]:=by simp[hr]
   simp only[this];exact (ae i d _ lU (Array.getElem?_eq_getElem hr)).trans ok.kO)
 rw[eW] at h;exact h
theorem W6 {t e:TypeId}{z r:List O}{sz len:Nat}{ps:List (Nat×Operand)}{eP:List (Nat×Nat×bT)}{ρ:Operand->Value}{tm:Nat->O}{aS:Nat->Prop}(bV:P.underlying t=some (.slice e))(a8:zeroOf P e=some z)
  (aa:fF P e=some sz) (qH:(o z)=sz) (au:0<sz) (ax:len*sz<=16777216) (aG:partsOf (λi=>some (i*sz,sz)) ps=some eP) (hρ:∀x y,dt x=some y->bA w aS B (bf tm y) (ρ x))
  (h:iZ (bf tm) (eL len z).flatten eP=some r) :
  ∃vs:Array Value,(Instr.buildSlice t len (ps.map λp=>(p.1,ρ p.2)).toArray).run P w=.ok (.slice (some ⟨w.heap.size,0,none⟩) len len) (w.alloc (.cells vs e))/\db w aS B r vs.toList:=by
 obtain⟨i,hA,Q,qG,cK⟩:=zu (P:=P) (w:=w) (B:=B) (aS:=aS) a8;have B3:hA.cells.size=sz:=by have:=cK.1;simp at this;omega
 have W7:=Jg (z:=hA.cells) (by omega) len;rw[B3] at W7;have xC:=cK.replicate (n:=len);rw[<-W7] at xC;obtain⟨mh,aN,U⟩:=Jf (place:=λi=>some (i*sz,sz)) hρ ps eP _ r _ aG xC h;refine⟨mh,?_,U⟩;have aL:¬ (len*sz>2^24):=by omega
 by_cases oR:len*sz=0
 ·have b8:((Array.range (len*sz)).map (hA.cells[·%sz]!))=#[]:=by rw[oR];simp[Array.range_zero']
  have agS:Instr.fill (λi=>some (i*sz,sz)) #[] (ps.map λp=>(p.1,ρ p.2))=some mh:=by rw[<-b8];exact aN
  simp only[Instr.buildSlice,Sem.run_bind,run_underlying bV,Result.andThen_ok,rQ aa];rw[aq aL];simp only[oR,if_true,Sem.run_bind,Sem.run_pure,Result.andThen_ok];simp[agS,newRow,Array.range_zero']
 ·simp only[Instr.buildSlice,Sem.run_bind,run_underlying bV,Result.andThen_ok,rQ aa];rw[aq aL];simp only[oR,if_false,Sem.run_bind,Sem.run_pure,Result.andThen_ok,Fk Q qG,B3];simp[aN,newRow]
theorem agT {t e:TypeId}{z:List O}{sz len:Nat}{ps:List (Nat×Operand)}{eP:List (Nat×Nat×bT)}{ρ:Operand->Value}{tm:Nat->O}{r:O}(bY:eK A w B mem)(bV:P.underlying t=some (.slice e))(a8:zeroOf P e=some z)
  (aa:fF P e=some sz) (qH:(o z)=sz) (au:0<sz) (ax:len*sz<=16777216) (aG:partsOf (λi=>some (i*sz,sz)) ps=some eP) (hρ:∀x y,dt x=some y->bA w (ca A B) B (bf tm y) (ρ x))
  (h:EM (eL len z).flatten sz len (iZ (bf tm) (eL len z).flatten eP)=some r) :
  ∃v aI,(Instr.buildSlice t len (ps.map λp=>(p.1,ρ p.2)).toArray).run P w=.ok v aI/\ea A w B aI B mem/\bA aI (ca A B) B r v:=by
 unfold EM at h
 split at h
 ·rename_i hlen
  cases aN:iZ (bf tm) (eL len z).flatten eP with
  |none=>rw[aN] at h;cases h
  |some cs =>
   rw[aN] at h;simp only[dI] at h;obtain⟨ds,gh,rfl⟩:=h;obtain⟨vs,kT,cK⟩:=W6 (P:=P) (B:=B) bV a8 aa qH au ax aG hρ aN;obtain⟨D,G⟩:=me gh
   have eW:(o cs)=len*sz:=by
    have:∀(eP:List (Nat×Nat×bT)) (a r:List O),iZ (bf tm) a eP=some r->(o r)=o a:=by
     intro eP
     induction eP with
     |nil=>intro a r h;simp[iZ] at h;rw[h]
     |cons q eP aA =>
      intro a r h;obtain⟨ar,s,x⟩:=q;simp only[iZ] at h
      split at h
      ·rename_i E;rw[aA _ _ h];unfold j9;simp;omega
      ·cases h
    rw[this _ _ _ aN,hlen]
   have a7:vs.size=len*sz:=by have:=cK.1;simp at this;omega
   refine⟨_,_,kT,.still bY ((Fr.refl _ _).alloc _),.J (agR bY _ rfl (by omega) a7 ?_ λi d v ae ad=>?_)⟩
   ·have:len<=len*sz:=Fo _ au;unfold maxLen;omega
   ·have az:i<o cs:=by have:=(ef.1 ae).1;omega
    have g8:=bL az;exact W5 (G i _ d g8 ae) (cK.2 i _ v g8 (by simpa using ad))
 ·cases h
theorem agU {t e:TypeId}{z:List O}{sz len:Nat}{ps:List (Nat×Operand)}{eP:List (Nat×Nat×bT)}{ρ:Operand->Value}{tm:Nat->O}{r:O}{im:Option (Key×Nat×List O)}(k:Key)(bY:eK A w B mem)(bV:P.underlying t=some (.slice e))(a8:zeroOf P e=some z)
  (aa:fF P e=some sz) (qH:(o z)=sz) (au:0<sz) (ax:len*sz<=16777216) (aG:partsOf (λi=>some (i*sz,sz)) ps=some eP) (hρ:∀x y,dt x=some y->bA w (ca A B) B (bf tm y) (ρ x))
  (h:BE k (b7 mem k) (eL len z).flatten sz len (iZ (bf tm) (eL len z).flatten eP)=some (r,im)) :
  ∃v aI bB,(Instr.buildSlice t len (ps.map λp=>(p.1,ρ p.2)).toArray).run P w=.ok v aI/\ea A w B aI bB (hd mem im)/\bA aI (ca A bB) bB r v:=by
 unfold BE at h
 split at h
 ·rename_i hlen
  cases aN:iZ (bf tm) (eL len z).flatten eP with
  |none=>rw[aN] at h;cases h
  |some cs =>
   rw[aN] at h
   cases h;obtain⟨vs,kT,cK⟩:=W6 (P:=P) (B:=B) bV a8 aa qH au ax aG hρ aN
   have eW:(o cs)=len*sz:=by
    have:∀(eP:List (Nat×Nat×bT)) (a r:List O),iZ (bf tm) a eP=some r->(o r)=o a:=by
     intro eP
     induction eP with
     |nil=>intro a r h;simp[iZ] at h;rw[h]
     |cons q eP aA =>
      intro a r h;obtain⟨ar,s,x⟩:=q;simp only[iZ] at h
      split at h
      ·rename_i E;rw[aA _ _ h];unfold j9;simp;omega
      ·cases h
    rw[this _ _ _ aN,hlen]
   have a7:vs.size=o cs:=by have:=cK.1;simp at this;omega
   refine⟨_,_,_,kT,Fl bY w (Fr.refl _ _) rfl k vs e (by omega) (by rw[du (by simp;omega)];exact cK),?_⟩
   have hq:len<=maxLen:=by
    have:len<=len*sz:=Fo _ au;unfold maxLen;omega
   exact .ref (gE _ _ _) (cA _) ⟨_,len,rfl,cA _,hq,.inr ⟨_,rfl,λ_=>⟨rfl,by simp only[ku];omega⟩⟩⟩
 ·cases h
theorem W8 {m:O}{sz n:Nat}{new:List O}{v:Value}(bY:eK A w B mem)(ad:bA w (ca A B) B m v)(h:nW mem sz m=some (n,new)):
  ∃a c vals,v=.slice a n c/\db w (ca A B) B new vals/\o vals=n*sz/\(0<n->∃b off,a=some ⟨b,off,none⟩/\At w b off vals):=by
 unfold nW at h
 split at h
 ·split at h
  ·rename_i es qI
   cases h;have qI:=Nk qI
   cases ad with
   |J ae =>
    cases ae with
    |j7=>exact⟨_,_,[],rfl,by simpa using db.nil,by simp,λh=>by simp at h⟩
    | @X es b off c dZ val ax hm ah fo eu E xz =>
     have nj:=IX qI;rcases jo (o es) with au|au
     ·have:es=[]:=mL au;subst this;exact⟨_,_,[],rfl,by simpa using db.nil,by simp,λh=>by simp at h⟩
     ·have Fh:dZ=sz:=by
       have lo:=s7 (l:=es) (n:=0) au;rw[<-eu _ lo,qI _ lo]
      subst Fh;refine⟨_,_,(hR (o es*dZ)).map val,rfl,?_,by simp,λ_=>⟨b,off,rfl,λj u ay=>?_⟩⟩
      ·refine db.J (by simp[nj]) λi d u D G=>?_;have Q:i<o es*dZ:=by have:=(ef.1 D).1;omega
       rw[bb,s5 Q] at G;simp only[rV,cz] at G;subst G;exact xz i d D
      ·have Q:j<o es*dZ:=by have:=(ef.1 ay).1;simpa using this
       rw[bb,s5 Q] at ay;simp only[rV,cz] at ay;subst ay;exact E j Q
  ·cases h
 ·cases h
  cases ad with
  |nil=>exact⟨_,_,[],rfl,db.nil,by simp,λh=>by simp at h⟩
 ·rename_i k g dZ off len
  split at h
  ·rename_i eu;subst eu
   split at h
   ·rename_i c4 cs R
    split at h
    ·rename_i bw;subst bw;simp only[dI,eU] at h;obtain⟨part,uB,rfl,rfl⟩:=h;obtain⟨ax,rfl,aL⟩:=BT uB
     cases ad with
     |ref he bw U =>
      obtain⟨e,fy,cb,BU,ah⟩:=bY.at_ R;rw[he] at fy
      cases fy;obtain⟨a,cap,rfl,D,G,ag⟩:=U;rcases ag with ag|⟨b,rfl,aR⟩
      ·have:len=0:=by omega
       subst this;exact⟨_,_,[],rfl,by simpa using db.nil,by simp,λh=>by omega⟩
      ·obtain⟨bs,b1⟩:=aR cb.symm;obtain⟨vs,T,a6,a8,hle,cK⟩:=ah b bs;refine⟨_,_,((vs.toList.take (o cs)).drop off).take (len*dZ),rfl,(cK.drop off).take _,by have:=((cK.drop off).take (len*dZ)).1;omega,λ_=>⟨b,off,rfl,?_⟩⟩
       have:=(((At.row a6).take (o cs)).add off).take (len*dZ)
       simpa using this
    ·cases h
   ·cases h
  ·cases h
 ·cases h
theorem Jl {sz n c:Nat}{a:Option Addr}{vals:List Value}(ax:(o vals)=n*sz)(g7:0<n->∃b off,a=some ⟨b,off,none⟩/\At w b off vals)(aI:World)(hw:aI.heap=w.heap):
  (Builtin.firstCells sz n (.slice a n c)).run P aI = .ok vals.toArray aI:=by
 have E:∀p,aI.cell? p=w.cell? p:=λp=>by simp[World.cell?,hw]
 rcases jo n with au|au
 ·subst au;have:vals=[]:=mL (by simpa using ax);subst this
  cases a with
  |none=>simp[Builtin.firstCells]
  |some a=>simp[Builtin.firstCells,loadCells,loadCellsFrom]
 ·obtain⟨b,off,rfl,agV⟩:=g7 au;exact run_firstCells_some aI sz n _ n c vals ax λj v ay=>by rw[vM,E];exact agV j v ay
theorem db.Nr {aS:Nat->Prop}{cs:List O}{vs:List Value}(h:db w aS B cs vs)(D:cs.all O.one=true):∀v∈vs,v.oneCell'=true:=by
 intro v ad;obtain⟨i,Q,iq⟩:=W4 ad;have kU:i<o cs:=by rw[<-h.1];exact Q
 have:=h.2 i _ _ (bL kU) (bL Q);rw[iq] at this;exact WK this (h2.1 D _ (s7 kU))
theorem Ns {t ty e:TypeId}{sz mM s9 n c:Nat}{base a:Option Addr}{vals:List Value}(bV:P.underlying t=some (.slice e))(aa:fF P e=some sz)(uC:mM+n<=s9)
  (aN:(Builtin.firstCells sz n (.slice a n c)).run P w=.ok vals.toArray w) (aI:World)
  (c1:∀b,base=some b->(storeCells (b.add (mM*sz)) vals).run P w=.ok () aI) (aL:base=none->aI=w) :
  (Builtin.append_ #[t,t] ty #[.slice base mM s9,.slice a n c]).run P w=.ok (.slice base (mM+n) s9) aI:=by
 simp only[fF,dI] at aa;obtain⟨i,Q,rfl⟩:=aa
 cases base with
 |none=>simp[Builtin.append_,run_underlying bV,sizeOf,typeInfo,Q,Builtin.lenOf,uC,aN,aL rfl]
 |some b=>simp[Builtin.append_,run_underlying bV,sizeOf,typeInfo,Q,Builtin.lenOf,uC,aN,c1 b rfl]
theorem agW {t ty e:TypeId}{sz mM s9 n c bytes:Nat}{base a:Option Addr}{nk vals:List Value}{i:TypeInfo}{z:Value}(bV:P.underlying t=some (.slice e))(Q:P.info? e=some i)(a8:i.zero=some z)(eu:i.size=sz)(Fm:i.bytes=bytes)
  (uC:s9<mM+n) (BV:∀aI,aI.heap=w.heap->(Builtin.firstCells sz mM (.slice base mM s9)).run P aI = .ok nk.toArray aI) (aN:∀aI,aI.heap=w.heap->(Builtin.firstCells sz n (.slice a n c)).run P aI = .ok vals.toArray aI)
  (agX:mM+n<=maxLen) (ah:(mM+n)*bytes<=140737488355328) :
  (Builtin.append_ #[t,t] ty #[.slice base mM s9,.slice a n c]).run P w =
   .ok (.slice (some ⟨w.heap.size,0,none⟩) (mM+n) (grownCap w (mM+n) s9 e))
    (w.drew.alloc (.cells (nk.toArray++vals.toArray++Builtin.zeroCells z.cells (grownCap w (mM+n) s9 e-(mM+n))) e)):=by
 subst eu;subst Fm
 have aL:¬ (mM+n<=s9):=by omega
 have agY:¬ (9223372036854775807<((mM:Int)+(n:Int))):=by unfold maxLen at agX;omega
 have Fi:=growslice_fits uC ah;have agZ:¬ (281474976710656<Builtin.nextslicecap (mM+n) s9*i.bytes):=by omega
 have D:=BV w.drew rfl;have G:=aN w.drew rfl;simp[Builtin.append_,run_underlying bV,sizeOf,typeInfo,zeroValue,Q,a8,Builtin.lenOf,aL,agY,agZ,Question.forced,D,G,newRow,grownCap,<-List.append_toArray,Array.append_assoc]
theorem ag0 {t ty e:TypeId}{z:List O}{bytes n:Nat}{cJ cE:O}{n1 jQ:Value}{new:List O}{r:O}{im:Option (Key×Nat×List O)}(k:Key)(bY:eK A w B mem)(bV:P.underlying t=some (.slice e))(a8:zeroOf P e=some z)(aa:fF P e=some (o z))
  (Fm:BK P e=some bytes) (au:0<o z) (fq:bA w (ca A B) B cJ n1) (eV:bA w (ca A B) B cE jQ) (ke:nW mem (o z) cE=some (n,new)) (h:oK mem k z bytes cJ (some (n,new))=some (r,im)) :
  ∃v aI bB,(Builtin.append_ #[t,t] ty #[n1,jQ]).run P w=.ok v aI/\ea A w B aI bB (hd mem im)/\bA aI (ca A bB) bB r v:=by
 obtain⟨dv,bN,vals,rfl,cK,ni,g7⟩:=W8 bY eV ke;obtain⟨i,hA,Q,qG,ag1⟩:=zu (P:=P) (w:=w) (B:=B) (aS:=ca A B) a8;have eu:=WZ Q aa;have ij:=W0 Q Fm;have B3:hA.cells.size=o z:=by have:=ag1.1;simp at this;omega
 have nm:(o new)=n*o z:=by rw[<-cK.1,ni]
 have aN:=λaI hw=>Jl (P:=P) (w:=w) (c:=bN) ni g7 aI hw
 -- a new block
 have grow:∀(base:Option Addr) (len cap:Nat) (g:Nat) (k':Key) (cs:List O) (nk:List Value),cap<len+n->(∀aI,aI.heap=w.heap->(Builtin.firstCells (o z) len (.slice base len cap)).run P aI = .ok nk.toArray aI) ->
   db w (ca A B) B cs nk->(o cs)=len*(o z)->len+n<=maxLen->(len+n)*bytes<=140737488355328->g=b7 mem k' ->
   ∃v aI bB,(Builtin.append_ #[t,t] ty #[.slice base len cap,.slice dv n bN]).run P w=.ok v aI/\ea A w B aI bB (bI mem k' g (cs++new))/\bA aI (ca A bB) bB (.ref k' g (o z) 0 (len+n)) v:=by
  intro base len cap g k' cs nk uC BV kP eW s8 B2 bw;subst bw;have kT:=agW (P:=P) (ty:=ty) bV Q qG eu ij uC BV aN s8 B2;have cb:=grownCap_ge w (len+n) cap e;have hle:=grownCap_le_maxLen w (len+n) cap e s8
  have zv:(nk.toArray++vals.toArray++Builtin.zeroCells hA.cells (grownCap w (len+n) cap e-(len+n))).size=grownCap w (len+n) cap e*o z:=by
   have zw:=kP.1;simp only[Array.size_append,List.size_toArray,size_zeroCells,B3,zw,eW,ni];rw[<-nS,<-nS]
   congr 1
   omega
  have eE:=kP.append cK;have hmul:(len+n)*o z<=grownCap w (len+n) cap e*o z:=rS _ cb;have Fp:(cs++new).length=(len+n)*o z:=by rw[fE,eW,nm,nS]
  refine⟨_,_,_,kT,Fl (cs:=cs++new) bY w.drew ((Fr.refl _ _).drew _) rfl k' _ e (by rw[zv,Fp];exact hmul) ?_,?_⟩
  ·have:(nk.toArray++vals.toArray++Builtin.zeroCells hA.cells (grownCap w (len+n) cap e-(len+n))).toList.take (cs++new).length=nk++vals:=by
    simp only[Array.toList_append,List.toList_toArray];rw[List.take_append_of_le_length (by rw[eE.1];exact cA _),du (by rw[eE.1];exact cA _)]
   rw[this];exact eE
  ·refine .ref (gE _ _ _) (cA _) ⟨_,_,rfl,cb,hle,.inr ⟨_,rfl,λ_=>⟨rfl,?_⟩⟩⟩;simp only[ku];rw[zv];exact cA _
 cases cJ with
 |nil =>
  simp only[oK] at h
  split at h
  ·rename_i E;obtain⟨B2,s8,qJ⟩:=E
   cases h
   cases fq with
   | @nil c6 =>
    rcases jo n with mN|mN
    ·subst mN;have B4:vals=[]:=mL (by simpa using ni);have Nt:new=[]:=mL (by simpa using nm);subst B4;subst Nt
     refine⟨_,_,_,Ns (P:=P) (ty:=ty) bV aa (cA _) (aN w rfl) w (λb _=>by simp[storeCells]) (λ_=>rfl),ea.uy bY k,?_⟩;exact .ref (gE _ _ _) (cA _) ⟨_,0,rfl,cA _,fY _,.inl rfl⟩
    ·have:=grow c6 0 0 (b7 mem k) k [] [] (by omega) (λaI hw=>by
      have:=Jl (P:=P) (w:=w) (sz:=o z) (n:=0) (c:=0) (a:=c6) (vals:=[]) (by simp) (λh=>by omega) aI hw;exact this) db.nil (by simp) (by omega) (by simpa using B2) rfl
     simpa [hd] using this
  ·cases h
 |ref k' g dZ off len =>
  simp only[oK] at h
  split at h
  ·rename_i E;obtain⟨rfl,rfl⟩:=E;unfold pO at h
   split at h
   ·rename_i c4 cs R
    split at h
    ·rename_i E;obtain⟨rfl,hlen,B2,s8,qJ⟩:=E
     cases h;obtain⟨zx,nn,cb,BU,ah⟩:=bY.at_ R;have uD:c4+1=b7 mem k':=by simp[b7,R]
     cases fq with
     |ref he bw U =>
      rw[nn] at he
      cases he;obtain⟨c6,cap,rfl,D,G,ag⟩:=U
      have hold:∃nk,db w (ca A B) B (cs.take (len*o z)) nk/\o nk=len*o z/\(0<len->∃b off,c6=some ⟨b,off,none⟩/\At w b off nk):=by
       rcases ag with ag|⟨b,rfl,aR⟩
       ·have:len=0:=by omega
        subst this;exact⟨[],by simpa using db.nil,by simp,λh=>by omega⟩
       ·obtain⟨bs,b1⟩:=aR cb.symm;obtain⟨vs,T,a6,zy,hle,vS⟩:=ah b bs;refine⟨(vs.toList.take (o cs)).take (len*o z),vS.take _,by have:=(vS.take (len*o z)).1;rw[this];simp;omega,λ_=>⟨b,0,rfl,((At.row a6).take _).take _⟩⟩
      obtain⟨nk,Jm,Nu,W9⟩:=hold
      by_cases uC:len+n<=cap
      ·rcases ag with ag|⟨b,rfl,aR⟩
       ·-- no room, and nothing comes
        have rW:len=0:=by omega
        have mN:n=0:=by omega
        subst rW;subst mN;subst ag
        have B4:vals=[]:=mL (by simpa using ni);have Nt:new=[]:=mL (by simpa using nm);subst B4;subst Nt
        refine⟨_,_,fG B k' ⟨b7 mem k',none,0⟩,Ns (P:=P) (ty:=ty) bV aa (cA _) (aN w rfl) w (λb _=>by simp[storeCells]) (λ_=>rfl),?_,?_⟩
        ·have:=ea.uy bY k'
         simpa [hd,uD] using this
        ·rw[uD];exact .ref (gE _ _ _) (cA _) ⟨_,0,rfl,cA _,fY _,.inl rfl⟩
       ·obtain⟨bs,b1⟩:=aR cb.symm;obtain⟨vs,T,a6,zy,hle,vS⟩:=ah b bs;have hmul:(len+n)*o z<=cap*o z:=rS _ uC;have Xa:(len+n)*o z=len*o z+n*o z:=nS _ _ _;have c1:=run_storeCells_at P b (len*o z) T vals 0 vs w a6 (by omega) (cK.Nr qJ);simp only[vQ] at c1
        have zw:nk=vs.toList.take (len*o z):=by
         apply pU;intro j;rcases h1 j (len*o z) with ay|ay
         ·have hT:0<len:=by
           rcases jo len with h|h
           ·subst h;simp at ay
           ·exact h
          obtain⟨dO,avl,Xb,ag2⟩:=W9 hT;simp only[cz,Addr.mk.injEq,and_true] at Xb;obtain⟨rfl,rfl⟩:=Xb;have Xc:j<o nk:=by omega
          have rT:=ag2 j _ (bL Xc);rw[ku,cell_of_row w b j vs T (0,0) a6] at rT;rw[bL Xc,vL,aj ay,<-rT,Array.getElem?_toList]
         ·rw[nh (by omega),vL,aq (by omega)]
        have Xd:(vs.toList.take (len*o z)++vals++vs.toList.drop (len*o z+o vals)).toArray.size=zx.size:=by
         simp;omega
        have f:Fr (λb=>∃e,B k'=some e/\e.dc=some b) w (w.setRow b (vs.toList.take (len*o z)++vals++vs.toList.drop (len*o z+o vals)).toArray):=by
         refine⟨rfl,rfl,rfl,by simp,λj ay bM=>?_⟩
         exact setRow_other w b j _ (λJh=>bM ⟨zx,nn,by rw[bs,Jh]⟩)
        have Fp:(cs.take (len*o z)++new).length=len*o z+o vals:=by
         rw[fE,nm,ni,gO,mi hlen]
        have ok:=ea.change (k:=k') (e':=⟨c4+1,some b,zx.size⟩) (cs:=cs.take (len*o z)++new) bY f
         (λaB eO => .inr (by rw[nn] at eO;cases eO;simp only;omega)) (λeg e2 => .inr ⟨zx,nn,by rw[bs];exact e2⟩) (λaL=>by cases aL) (λeg e2=>by
          cases e2;refine⟨_,T,setRow_heap w b vs _ T (0,0) a6,Xd,by rw[Xd,Fp,ni];omega,λi m hm=>?_⟩
          have eE:=Jm.append cK;obtain⟨v,ad,U⟩:=eE.get hm;refine⟨v,?_,U⟩;rw[zw] at ad;have az:i<(vs.toList.take (len*o z)++vals).length:=(ef.1 ad).1;simp only[Xe];rw[uA az];exact ad)
        refine⟨_,_,_,Ns (P:=P) (ty:=ty) (a:=dv) (c:=bN) (vals:=vals) bV aa uC (aN w rfl) _ (λdO g6=>by
         cases g6;rw[vM,ku];exact c1) (λh=>by cases h),ok,?_⟩
        exact .ref (gE _ _ _) (cA _) ⟨_,cap,rfl,uC,G,.inr ⟨b,rfl,λ_=>⟨rfl,b1⟩⟩⟩
      ·have:=grow c6 len cap (c4+1) k' (cs.take (len*o z)) nk (by omega) (λaI hw=>Jl (P:=P) (w:=w) Nu W9 aI hw) Jm (by rw[gO,mi hlen]) s8 B2 uD;exact this
    ·cases h
   ·cases h
  ·cases h
 |_=>simp[oK] at h
theorem ag3 {t u ty e:TypeId}{sz n:Nat}{cJ cE:O}{n1 jQ:Value}{new:List O}{r:O}{im:Option (Key×Nat×List O)}(bY:eK A w B mem)(bV:P.underlying t=some (.slice e))(aa:fF P e=some sz)
  (fq:bA w (ca A B) B cJ n1) (eV:bA w (ca A B) B cE jQ) (ke:nW mem sz cE=some (n,new)) (h:sW mem sz cJ (some (n,new))=some (r,im)) :
  ∃v aI,(Builtin.copy_ #[t,u] ty #[n1,jQ]).run P w=.ok v aI/\ea A w B aI B (hd mem im)/\bA aI (ca A B) B r v:=by
 obtain⟨dv,bN,vals,rfl,cK,ni,g7⟩:=W8 bY eV ke;have nm:(o new)=n*sz:=by rw[<-cK.1,ni]
 cases cJ with
 |ref k g dZ off len =>
  simp only[sW] at h
  split at h
  ·rename_i eu;subst eu;unfold I4 at h
   split at h
   ·rename_i c4 cs R
    split at h
    ·rename_i E;obtain⟨rfl,Fi,qJ⟩:=E
     cases h;obtain⟨zx,nn,cb,BU,ah⟩:=bY.at_ R;have uE:Nat.min n len=min n len:=rfl;have hle:min n len<=n:=Nat.min_le_left _ _;have ag4:min n len<=len:=Nat.min_le_right _ _;have oQ:min n len*dZ<=n*dZ:=rS _ hle;have avm:min n len*dZ<=len*dZ:=rS _ ag4;have lV:(vals.take (min n len*dZ)).length=min n len*dZ:=by rw[gO,ni,mi oQ]
     have Xf:∀(a:Option Addr) (c:Nat),(0<n->∃b off,a=some ⟨b,off,none⟩/\At w b off vals)->(Builtin.firstCells dZ (min n len) (.slice a n c)).run P w=.ok (vals.take (min n len*dZ)).toArray w:=by
      intro a c g7
      have:=Jl (P:=P) (w:=w) (sz:=dZ) (n:=min n len) (c:=c) (a:=a) (vals:=vals.take (min n len*dZ)) lV (λh=>by
       obtain⟨b,off,D,G⟩:=g7 (by omega);exact⟨b,off,D,G.take _⟩) w rfl
      cases a with
      |none=>simpa [Builtin.firstCells] using this
      |some a=>simpa [Builtin.firstCells] using this
     cases fq with
     |ref he bw U =>
      rw[nn] at he
      cases he;obtain⟨c6,cap,rfl,D,G,ag⟩:=U;simp only[fF,dI] at aa;obtain⟨i,Q,Nv⟩:=aa;rcases ag with ag|⟨b,rfl,aR⟩
      ·have rW:len=0:=by omega
       subst rW;have lo:min n 0=0:=Nat.min_zero _;have qK:j9 cs off (new.take (min n 0*dZ))=cs:=by simp[j9]
       have c1:∀a:Addr,(storeCells a ([]:List Value)).run P w=.ok () w:=λa=>by simp[storeCells]
       have Fq:=Xf dv bN g7;simp only[lo,Nat.zero_mul,List.take_zero] at Fq
       have kV:fG B k zx=B:=by
        funext j;unfold fG;split
        ·rename_i ay;rw[ay,nn]
        ·rfl
       refine⟨.int .i64 0,w,?_,?_,by simpa using bA.ofInt⟩
       ·cases c6 with
        |none=>simp[Builtin.copy_,run_underlying bV,Builtin.lenOf,sizeOf,typeInfo,Q,Nv,Fq,goInt]
        |some a=>simp[Builtin.copy_,run_underlying bV,Builtin.lenOf,sizeOf,typeInfo,Q,Nv,Fq,c1,goInt]
       ·have ir:bI mem k c4 cs=mem:=by
         funext j;unfold bI;split
         ·rename_i ay;rw[ay,R]
         ·rfl
        simp only[hd,qK,ir];exact .refl bY
      ·obtain⟨bs,b1⟩:=aR cb.symm;obtain⟨vs,T,a6,zy,Fs,vS⟩:=ah b bs;have c1:=run_storeCells_at P b off T (vals.take (min n len*dZ)) 0 vs w a6 (by omega) (λv ad=>cK.Nr qJ v (B0 ad));simp only[vQ] at c1;refine⟨.int .i64 ((min n len:Nat):Int),_,?_,Nn bY R nn bs a6 zy Fs vS cb (by rw[gO,nm,mi oQ];omega) (cK.take (min n len*dZ)),.ofInt⟩;have Fq:=Xf dv bN g7;simp[Builtin.copy_,run_underlying bV,Builtin.lenOf,sizeOf,typeInfo,Q,Nv,uE,Fq,c1,goInt]
    ·cases h
   ·cases h
  ·cases h
 |_=>simp[sW] at h
theorem ag5 {z:Array Value}(au:0<z.size)(n:Nat):(Builtin.zeroCells z n).toList=(eL n z.toList).flatten:=by
 unfold Builtin.zeroCells;exact Jg au n
theorem ag6 {t ty e:TypeId}{z:List O}{cJ:O}{n1:Value}{r:O}{im:Option (Key×Nat×List O)}(bY:eK A w B mem)(bV:P.underlying t=some (.slice e))(a8:zeroOf P e=some z)(au:0<o z)
  (fq:bA w (ca A B) B cJ n1) (h:ur mem z cJ=some (r,im)) :
  ∃v aI,(Builtin.clear_ #[t] ty #[n1]).run P w=.ok v aI/\ea A w B aI B (hd mem im)/\bA aI (ca A B) B r v:=by
 have Xg:∀aI:World,bA aI (ca A B) B (.cQ []) (.tuple #[]):=λaI=>bA.cQ (cs:=[]) (vs:=[]) rfl λi d v ae=>by simp at ae
 cases cJ with
 |ref k g sz off len =>
  simp only[ur] at h
  split at h
  ·rename_i eu;subst eu;unfold I5 at h
   split at h
   ·rename_i c4 cs R
    split at h
    ·rename_i E;obtain⟨rfl,Fi,qJ⟩:=E
     cases h;obtain⟨i,hA,Q,qG,cK⟩:=zu (P:=P) (w:=w) (B:=B) (aS:=ca A B) a8;have B3:hA.cells.size=o z:=by have:=cK.1;simp at this;omega
     obtain⟨zx,nn,cb,BU,ah⟩:=bY.at_ R
     cases fq with
     |ref he bw U =>
      rw[nn] at he
      cases he;obtain⟨c6,cap,rfl,D,G,ag⟩:=U;rcases jo len with rW|rW
      ·subst rW;have qK:j9 cs off (eL 0 z).flatten=cs:=by simp[j9]
       have ir:bI mem k c4 cs=mem:=by
        funext j;unfold bI;split
        ·rename_i ay;rw[ay,R]
        ·rfl
       refine⟨.tuple #[],w,?_,?_,Xg _⟩
       ·cases c6<;>simp[Builtin.clear_,run_underlying bV]
       ·simp only[hd,qK,ir];exact .refl bY
      ·rcases ag with ag|⟨b,rfl,aR⟩
       ·omega
       ·obtain⟨bs,b1⟩:=aR cb.symm;obtain⟨vs,T,a6,zy,Fs,vS⟩:=ah b bs;have xC:=cK.replicate len;have qH:=ag5 (z:=hA.cells) (by omega) len;have nm:(eL len z).flatten.length=len*o z:=by simp
        have ni:(eL len hA.cells.toList).flatten.length=len*o z:=by simp[B3]
        have ag7:(eL len z).flatten.all O.one=true:=by
         rw[h2] at qJ ⊢;intro x I;obtain⟨y,ak,gw⟩:=List.mem_flatten.1 I;exact qJ x (by rw[<-(List.mem_replicate.1 ak).2];exact gw)
        have c1:=run_storeCells_at P b off T (eL len hA.cells.toList).flatten 0 vs w a6 (by omega) (xC.Nr ag7);simp only[vQ] at c1;refine⟨.tuple #[],_,?_,Nn bY R nn bs a6 zy Fs vS cb (by omega) xC,Xg _⟩;obtain⟨agF,rfl⟩:∃l,len=l+1:=⟨len-1,by omega⟩
        simp[Builtin.clear_,run_underlying bV,Fk Q qG,qH,c1]
    ·cases h
   ·cases h
  ·cases h
 |_=>simp[ur] at h
end
end Go.Mini
namespace Go.Mini
open Go
variable {P:Program} {A:Nat->Prop} {w:World} {B:Lay} {mem:Mem}
theorem ag8 {t e:TypeId}{sz l h len:Nat}{m r:O}{v:Value}{jm jn:Option Value}{ct Q:Option O}(bY:eK A w B mem)(bV:P.underlying t=some (.array len e))(aa:fF P e=some sz)(avn:len<=16777216)
  (fp:ie 0 ct=some l) (hS:ie len Q=some h) (kR:oP w (ca A B) B ct jm) (kd:oP w (ca A B) B Q jn) (hm:bA w (ca A B) B m v) (U:xv mem len sz l h m=some r) :
  ∃z,(Instr.sliceAt t v jm jn none).run P w=.ok z w/\bA w (ca A B) B r z:=by
 unfold xv at U
 split at U
 ·rename_i k g off;unfold M6 at U
  split at U
  ·rename_i c4 cs R
   split at U
   ·rename_i E;obtain⟨rfl,D,G,ag⟩:=E
    cases U
    cases hm with
    |ptr he bw ad =>
     obtain⟨b,rfl,ah⟩:=ad;obtain⟨e',fy,cb,aL,iH⟩:=bY.at_ R;rw[fy] at he
     cases he;have ij:=ah cb.symm;obtain⟨vs,T,a6,a8,hle,_⟩:=iH b ij;refine⟨.slice (some (if len=l then ⟨b,off,none⟩ else ⟨b,off+l*sz,none⟩)) (h-l) (len-l),?_,.ref fy bw ⟨_,len-l,rfl,by omega,by unfold maxLen;omega,?_⟩⟩
     ·simp[Instr.sliceAt,run_underlying bV,Instr.sureAddr,Ni (P:=P) (w:=w) false fp hS kR kd D G,rQ aa]
      split<;>simp[vM]
     ·rcases Je (eG D G) with ax|ax
      ·exact .inl (by omega)
      ·refine .inr ⟨b,by rw[aq (by omega)],λ_=>⟨ij,?_⟩⟩
       have:off+l*sz+(len-l)*sz=off+len*sz:=by
        rw[nZ,<-nS]
        congr 2
        omega
       omega
   ·cases U
  ·cases U
 ·cases U
theorem ag9 {dz:List Field}(h:(dz.all λf=>(fF P f.type).isSome)=true):∃ps:List (Nat×Nat),(dz.mapM λf=>(do pure (f.offset,<-sizeOf f.type):Sem (Nat×Nat))).run P w=.ok ps w /\
  ∀i:Nat,ps[i]?=rO P dz.toArray i:=by
 induction dz with
 |nil=>exact⟨[],by simp,λi=>by simp[rO]⟩
 |cons f r aA =>
  simp only[List.all_cons,eX] at h;obtain⟨ps,D,G⟩:=aA h.2;obtain⟨s,aa⟩:=Xh.1 h.1;refine⟨(f.offset,s)::ps,?_,λi=>?_⟩
  ·simp only[lT,Sem.run_bind,rQ aa,Result.andThen_ok,Sem.run_pure];rw[D]
   rfl
  ·cases i with
   |zero=>simp[rO,aa]
   |succ i =>
    have:=G i;simp only[rO,Xe,List.getElem?_cons_succ] at this ⊢;exact this
theorem aha {p q:Nat->Option (Nat×Nat)}(h:∀i,p i=q i)(cs:Array Value)(l:List (Nat×Value)):Instr.fill p cs l=Instr.fill q cs l:=by
 rw[show p=q from funext h]
theorem ahb {t:TypeId}{dz:Array Field}{z r:List O}{ps:List (Nat×Operand)}{eP:List (Nat×Nat×bT)}{ρ:Operand->Value}{tm:Nat->O}{aS:Nat->Prop}(bV:P.underlying t=some (.struct dz))(a8:zeroOf P t=some z)
  (aM:(dz.toList.all λf=>(fF P f.type).isSome)=true) (aG:partsOf (rO P dz) ps=some eP) (hρ:∀x y,dt x=some y->bA w aS B (bf tm y) (ρ x))
  (h:iZ (bf tm) z eP=some r):∃v,(Instr.build t (ps.map λp=>(p.1,ρ p.2)).toArray).run P w=.ok v w/\bA w aS B (.agg r) v:=by
 obtain⟨i,hA,Q,qG,cK⟩:=zu (P:=P) (w:=w) (B:=B) (aS:=aS) a8;obtain⟨pl,D,G⟩:=ag9 (w:=w) aM;obtain⟨mh,aN,U⟩:=Jf (place:=rO P dz) hρ ps eP _ r _ aG cK h;refine⟨.agg mh,?_,by rw[show mh=mh.toList.toArray from by simp];exact .agg U.1 U.2⟩
 ·have ta:∀i,pl.toArray[i]?=rO P dz i:=λi=>by simpa using G i
  have hm:(dz.mapM λf=>(do pure (f.offset,<-sizeOf f.type):Sem (Nat×Nat))).run P w=.ok pl.toArray w:=by
   rw[Array.mapM_eq_mapM_toList];rw[map_eq_pure_bind];simp only[Sem.run_bind,D,Result.andThen_ok,Sem.run_pure]
  simp only[Instr.build,Sem.run_bind,Fk Q qG,Result.andThen_ok,Sem.run_pure,run_underlying bV,hm,aha ta,aN]
theorem ahc {t e:TypeId}{n sz:Nat}{z r:List O}{ps:List (Nat×Operand)}{eP:List (Nat×Nat×bT)}{ρ:Operand->Value}{tm:Nat->O}{aS:Nat->Prop}(bV:P.underlying t=some (.array n e))(a8:zeroOf P t=some z)
  (aa:fF P e=some sz) (aG:partsOf (λi=>some (i*sz,sz)) ps=some eP) (hρ:∀x y,dt x=some y->bA w aS B (bf tm y) (ρ x))
  (h:iZ (bf tm) z eP=some r):∃v,(Instr.build t (ps.map λp=>(p.1,ρ p.2)).toArray).run P w=.ok v w/\bA w aS B (.agg r) v:=by
 obtain⟨i,hA,Q,qG,cK⟩:=zu (P:=P) (w:=w) (B:=B) (aS:=aS) a8;obtain⟨mh,aN,U⟩:=Jf (place:=λi=>some (i*sz,sz)) hρ ps eP _ r _ aG cK h;refine⟨.agg mh,?_,by rw[show mh=mh.toList.toArray from by simp];exact .agg U.1 U.2⟩
 simp only[Instr.build,Sem.run_bind,Fk Q qG,Result.andThen_ok,Sem.run_pure,run_underlying bV,rQ aa,aN]
end Go.Mini
namespace Go.Mini
open Go
variable {P:Program} {A:Nat->Prop} {w:World} {B:Lay} {mem:Mem}
def ahd (n:Next)(v:Value):Prop:=n=.value v\/(n=.skip/\v=undef)
def hf (A:Nat->Prop)(w:World)(B:Lay)(run:Result Next)(mem':Mem)(r:O):Prop :=
 ∃n v aI bB,run=.ok n aI/\ahd n v/\ea A w B aI bB mem'/\bA aI (ca A bB) bB r v
theorem hf.kv {s:Sem Value}{r:O}(bY:eK A w B mem)(h:∃v,s.run P w=.ok v w/\bA w (ca A B) B r v):hf A w B ((do pure (.value (<-s)):Sem Next).run P w) mem r:=by
 obtain⟨v,D,G⟩:=h;exact⟨.value v,v,w,B,by simp[D],.inl rfl,.refl bY,G⟩
theorem hf.of {s:Sem Value}{mem':Mem}{r:O}(h:∃v aI bB,s.run P w=.ok v aI/\ea A w B aI bB mem'/\bA aI (ca A bB) bB r v):hf A w B ((do pure (.value (<-s)):Sem Next).run P w) mem' r:=by
 obtain⟨v,aI,bB,D,G,ag⟩:=h;exact⟨.value v,v,aI,bB,by simp[D],.inl rfl,G,ag⟩
theorem Xi {x:Option O}{r:O}{im:Option (Key×Nat×List O)}(h:hP x=some (r,im)):x=some r/\im=none:=by
 unfold hP at h
 split at h<;>cases h
 exact⟨rfl,rfl⟩
theorem n2 {x:Option Nat}{f:Nat->Option O}{r:O}(h:g5 x f=some r):∃n,x=some n/\f n=some r:=by
 unfold g5 at h
 split at h
 ·exact⟨_,rfl,h⟩
 ·cases h
theorem Xj {x y:Option Nat}{f:Nat->Nat->Out}{r:O×Option (Key×Nat×List O)}(h:E3 x y f=some r):∃n m,x=some n/\y=some m/\f n m=some r:=by
 unfold E3 at h
 split at h
 ·exact⟨_,_,rfl,rfl,h⟩
 ·cases h
theorem zz {aS:Nat->Prop}{ρ:Operand->Value}{tm:Nat->O}(hρ:∀x y,dt x=some y->bA w aS B (bf tm y) (ρ x)){x:Option Operand}{y:Option bT}(h:qB x=some y):oP w aS B (y.map (bf tm)) (x.map ρ):=by
 cases x with
 |none=>simp[qB] at h;subst h;simp[oP]
 |some x =>
  simp only[qB,dI] at h;obtain⟨y',ak,rfl⟩:=h;simp only[rV,oP];exact hρ _ _ ak
theorem Xk {dz:Array Field}{f ar s:Nat}(h:rO P dz f=some (ar,s)):∃fd,dz[f]?=some fd/\fd.offset=ar/\fF P fd.type=some s:=by
 simp only[rO,gv,gF,dQ,cz,eU] at h;obtain⟨fd,D,Xl,G,ag,aR⟩:=h;exact⟨fd,D,ag,aR ▸ G⟩
theorem uF {aS:Nat->Prop}{ρ:Operand->Value}{tm:Nat->O}(hρ:∀x y,dt x=some y->bA w aS B (bf tm y) (ρ x)):∀{l:List Operand} {r:List bT},l.mapM dt=some r->db w aS B (r.map (bf tm)) (l.map ρ)
 | [],r,h=>by simp at h;subst h;exact db.nil
 |x::l,r,h=>by
  simp only[lT,gv,gF,dQ,cz] at h;obtain⟨y,ak,xx,U,rfl⟩:=h;exact db.cons (hρ _ _ ak) (uF hρ U)
theorem xD {α β:Type}(a:Array α)(f:α->β):a.map f=(a.toList.map f).toArray:=by
 apply Array.ext';simp
theorem hU {tm:Nat->O}{m:iF}{r:O}{im:Option (Key×Nat×List O)}{x:Option O}(h:cl mem tm m=some (r,im))(e:cl mem tm m=hP x):x=some r/\im=none:=Xi (e.symm.trans h)
theorem ahe {ρ:Operand->Value}{tm:Nat->O}{kb:Nat}{own:List Nat}{dst:Option Tmp}{type:TypeId}{c:Call}{m:iF}{r:O}{im:Option (Key×Nat×List O)}(bY:eK A w B mem)
  (hρ:∀x y,dt x=some y->bA w (ca A B) B (bf tm y) (ρ x)) (aW:uv P kb own dst type c=some m) (h:cl mem tm m=some (r,im)) :
  hf A w B ((do let d <-resolve ρ c type;invoke d.target d.args:Sem Next).run P w) (hd mem im) r:=by
 obtain⟨callee,args,argTypes⟩:=c;have two:∀{α:Type} (a:Array α) (x y:α),a.toList=[x,y]->a=#[x,y]:=λa x y h=>Array.ext' (by simpa using h);have one:∀{α:Type} (a:Array α) (x:α),a.toList=[x]->a=#[x]:=λa x h=>Array.ext' (by simpa using h);unfold uv at aW
 split at aW
 ·rename_i x t E aM bV;simp only at E aM bV;subst E;obtain rfl:=one _ _ aM;obtain rfl:=one _ _ bV
  split at aW
  ·rename_i e hu;simp only[dI] at aW;obtain⟨y,ak,rfl⟩:=aW;obtain⟨aF,rfl⟩:=hU h rfl;obtain⟨n,aL,aF⟩:=n2 aF
   cases aF;have:=agy (P:=P) (w:=w) t type e hu (hρ _ _ ak) aL;exact⟨.value _,_,w,B,by simp[resolve,invoke,builtin,this],.inl rfl,.refl bY,.J .int⟩
  ·rename_i hu;simp only[dI] at aW;obtain⟨y,ak,rfl⟩:=aW;obtain⟨aF,rfl⟩:=hU h rfl;obtain⟨n,aL,aF⟩:=n2 aF
   cases aF;have:=agz (P:=P) (w:=w) t type hu (hρ _ _ ak) aL;exact⟨.value _,_,w,B,by simp[resolve,invoke,builtin,this],.inl rfl,.refl bY,.J .int⟩
  ·cases aW
 ·rename_i s x t u E aM bV;simp only at E aM bV;subst E;obtain rfl:=two _ _ _ aM;obtain rfl:=two _ _ _ bV
  split at aW
  ·rename_i e aB hu Xm;simp only[gv,gF,dQ] at aW;obtain⟨z,a8,b,ah,n,aL,d,ae,Xl,h3,iu,rX,a6⟩:=aW
   split at a6
   ·rename_i ja;obtain⟨rfl,au,rfl⟩:=ja
    cases a6;simp only[cl] at h
    cases ke:nW mem (o z) (bf tm iu) with
    |none =>
     rw[ke] at h
     revert h
     cases bf tm Xl<;>simp[oK]
    |some p =>
     obtain⟨k,new⟩:=p;rw[ke] at h;obtain⟨v,aI,bB,D,G,ag⟩:=ag0 (ty:=type) _ bY hu a8 aL ah au (hρ _ _ h3) (hρ _ _ rX) ke h;exact⟨.value v,v,aI,bB,by simp[resolve,invoke,builtin,D],.inl rfl,G,ag⟩
   ·cases a6
  ·cases aW
 ·rename_i avo x t u E aM bV;simp only at E aM bV;subst E;obtain rfl:=two _ _ _ aM;obtain rfl:=two _ _ _ bV
  split at aW
  ·rename_i e aB hu Xm;simp only[gv,gF,dQ] at aW;obtain⟨n,aL,a6⟩:=aW
   split at a6
   ·rename_i au;simp only[dQ,cz] at a6;obtain⟨uG,mg,iu,rX,rfl⟩:=a6;simp only[cl] at h
    cases ke:nW mem n (bf tm iu) with
    |none =>
     rw[ke] at h
     revert h
     cases bf tm uG<;>simp[sW]
    |some p =>
     obtain⟨k,new⟩:=p;rw[ke] at h;obtain⟨v,aI,D,G,ag⟩:=ag3 (u:=u) (ty:=type) bY hu aL (hρ _ _ mg) (hρ _ _ rX) ke h;exact⟨.value v,v,aI,B,by simp[resolve,invoke,builtin,D],.inl rfl,G,ag⟩
   ·cases a6
  ·cases aW
 ·rename_i x t E aM bV;simp only at E aM bV;subst E;obtain rfl:=one _ _ aM;obtain rfl:=one _ _ bV
  split at aW
  ·rename_i e hu;simp only[gv,gF,dQ] at aW;obtain⟨z,a8,n,aL,a6⟩:=aW
   split at a6
   ·rename_i au;simp only[dQ,cz] at a6;obtain⟨iu,rX,rfl⟩:=a6;simp only[cl] at h;obtain⟨v,aI,D,G,ag⟩:=ag6 (ty:=type) bY hu a8 (by omega) (hρ _ _ rX) h;exact⟨.value v,v,aI,B,by simp[resolve,invoke,builtin,D],.inl rfl,G,ag⟩
   ·cases a6
  ·cases aW
 ·rename_i x y E aM;simp only at E aM;subst E;obtain rfl:=two _ _ _ aM;simp only[gv,gF,dQ,cz] at aW;obtain⟨iu,I,y',ak,rfl⟩:=aW;obtain⟨aF,rfl⟩:=hU h rfl;obtain⟨z,D,G⟩:=WT (P:=P) argTypes type (hρ _ _ I) (hρ _ _ ak) aF;simp only[if_true] at D;exact⟨.value z,z,w,B,by simp[resolve,invoke,builtin,D],.inl rfl,.refl bY,G⟩
 ·rename_i x y E aM;simp only at E aM;subst E;obtain rfl:=two _ _ _ aM;simp only[gv,gF,dQ,cz] at aW;obtain⟨iu,I,y',ak,rfl⟩:=aW;obtain⟨aF,rfl⟩:=hU h rfl;obtain⟨z,D,G⟩:=WT (P:=P) argTypes type (hρ _ _ I) (hρ _ _ ak) aF;simp only[kc,if_false] at D;exact⟨.value z,z,w,B,by simp[resolve,invoke,builtin,D],.inl rfl,.refl bY,G⟩
 ·split at aW
  ·split at aW
   ·simp only[gv,gF,dQ,cz] at aW;obtain⟨_,_,_,_,_,_,rfl⟩:=aW
    cases h
   ·cases aW
  ·split at aW
   ·(repeat' split at aW)<;>simp only[gv,gF,dQ,cz] at aW
    all_goals
     obtain⟨_,_,rfl⟩:=aW
     cases h
   ·simp only[gv,gF,dQ,cz] at aW;obtain⟨_,_,rfl⟩:=aW
    cases h
 ·simp only[gv,gF,dQ,cz] at aW;obtain⟨_,_,_,_,rfl⟩:=aW
  cases h
 ·cases aW
theorem Xn {ρ:Operand->Value}{tm:Nat->O}{kb:Nat}{own:List Nat}{ar:Oper}{m:iF}{r:O}{im:Option (Key×Nat×List O)}(bY:eK A w B mem)
  (hρ:∀x y,dt x=some y->bA w (ca A B) B (bf tm y) (ρ x)) (aW:ih P kb own ar.dst ar.type ar.op=some m) (h:cl mem tm m=some (r,im)) :
  hf A w B ((execOp ρ ar).run P w) (hd mem im) r:=by
 obtain⟨dst,op,type,pos,after,guard⟩:=ar;simp only at aW
 cases op<;>simp only[ih] at aW<;>simp only[execOp]
 case move x =>
  simp only[dI] at aW;obtain⟨y,ak,rfl⟩:=aW;obtain⟨aF,rfl⟩:=hU (x:=some (bf tm y)) h rfl
  cases aF;exact⟨_,_,w,B,rfl,.inl rfl,.refl bY,hρ _ _ ak⟩
 case assign x =>
  simp only[dI] at aW;obtain⟨y,ak,rfl⟩:=aW;obtain⟨aF,rfl⟩:=hU (x:=some (bf tm y)) h rfl
  cases aF;exact⟨_,_,w,B,rfl,.inl rfl,.refl bY,hρ _ _ ak⟩
 case pick c a b =>
  simp only[gv,gF,dQ,cz] at aW;obtain⟨c',E,il,aM,dO,ah,rfl⟩:=aW;obtain⟨aF,rfl⟩:=hU h rfl;have:=hf.kv bY (agm (P:=P) (hρ _ _ E) (hρ _ _ aM) (hρ _ _ ah) aF)
  simpa [hd] using this
 case alloc e =>
  simp only[gv,gF,dQ,cz] at aW;obtain⟨d,ae,z,a8,rfl⟩:=aW;simp only[cl,cz,eU] at h;obtain⟨rfl,rfl⟩:=h;exact hf.of (agM _ bY a8)
 case box e x =>
  simp only[gv,gF,dQ,cz] at aW;obtain⟨d,ae,y,ak,rfl⟩:=aW;simp only[cl] at h
  split at h
  ·rename_i R;simp only[cz,eU] at h;obtain⟨rfl,rfl⟩:=h;exact hf.of (agN _ bY (hρ _ _ ak) R)
  ·cases h
 case build t ps =>
  split at aW
  ·rename_i dz hu
   split at aW
   ·rename_i aM;simp only[gv,gF,dQ,cz] at aW;obtain⟨z,a8,eP,vP,rfl⟩:=aW;obtain⟨aF,rfl⟩:=hU h rfl;simp only[jl,dI] at aF;obtain⟨cs,kP,rfl⟩:=aF;rw[xD];exact hf.kv bY (ahb hu a8 aM vP hρ kP)
   ·cases aW
  ·rename_i n e hu;simp only[gv,gF,dQ,cz] at aW;obtain⟨s,aa,z,a8,eP,vP,rfl⟩:=aW;obtain⟨aF,rfl⟩:=hU h rfl;simp only[jl,dI] at aF;obtain⟨cs,kP,rfl⟩:=aF;rw[xD];exact hf.kv bY (ahc hu a8 aa vP hρ kP)
  ·cases aW
 case buildSlice t len ps =>
  split at aW
  ·rename_i e hu;simp only[gv,gF,dQ] at aW;obtain⟨z,a8,s,aa,eP,vP,d,ae,a6⟩:=aW
   split at a6
   ·rename_i E;obtain⟨qH,au,ax⟩:=E;simp only[cz] at a6;subst a6;rw[xD]
    cases jq:own.contains d with
    |true =>
     rw[jq] at h;exact hf.of (agU _ bY hu a8 aa qH au ax vP hρ h)
    |false =>
     rw[jq] at h;obtain⟨aF,rfl⟩:=hU h rfl;obtain⟨v,aI,D,G,ag⟩:=agT bY hu a8 aa qH au ax vP hρ aF;exact hf.of ⟨v,aI,B,D,G,ag⟩
   ·cases a6
  ·cases aW
 case load t x =>
  simp only[gv,gF,dQ,cz] at aW;obtain⟨n,aL,g,bw,y,ak,rfl⟩:=aW;obtain⟨aF,rfl⟩:=hU h rfl;exact hf.kv bY (agl aL bw bY (hρ _ _ ak) aF)
 case store t x v =>
  simp only[gv,gF,dQ,cz] at aW;obtain⟨n,aL,iu,I,zq,ad,rfl⟩:=aW;obtain⟨aI,D,G,rfl⟩:=agP bY aL (hρ _ _ I) (hρ _ _ ad) h;exact⟨.skip,undef,aI,B,by simp[D],.inr ⟨rfl,rfl⟩,G,.no⟩
 case nilCheck x =>
  simp only[dI] at aW;obtain⟨y,ak,rfl⟩:=aW;obtain⟨aF,rfl⟩:=hU h rfl;obtain⟨⟨b,off,I⟩,U⟩:=agA (hρ _ _ ak) aF;rw[I] at U ⊢;exact⟨_,_,w,B,rfl,.inl rfl,.refl bY,U⟩
 case binOp bop t x y pos2 =>
  unfold vH at aW
  split at aW
  ·split at aW
   ·rename_i iu y' I ak
    cases aW;obtain⟨aF,rfl⟩:=hU h rfl;exact hf.kv bY (WG t x y (hρ _ _ I) (hρ _ _ ak) aF)
   ·cases aW
  ·split at aW
   ·rename_i iu y' I ak
    cases aW;obtain⟨aF,rfl⟩:=hU h rfl;exact hf.kv bY (WG t x y (hρ _ _ I) (hρ _ _ ak) aF)
   ·cases aW
  ·rename_i hu
   split at aW
   ·rename_i iu y' I ak
    cases aW;obtain⟨aF,rfl⟩:=hU h rfl;exact hf.kv bY (WH (neg:=false) t x y hu (hρ _ _ I) (hρ _ _ ak) aF)
   ·rename_i iu y' I ak
    cases aW;obtain⟨aF,rfl⟩:=hU h rfl;exact hf.kv bY (WH (neg:=true) t x y hu (hρ _ _ I) (hρ _ _ ak) aF)
   ·cases aW
  ·rename_i dz hu
   split at aW
   ·unfold s3 at aW
    split at aW
    ·rename_i E
     split at aW
     ·rename_i fX iu y' R I ak
      cases aW;obtain⟨aF,rfl⟩:=hU h rfl;exact hf.kv bY (WO (neg:=false) t x y dz hu E.1 E.2 R (hρ _ _ I) (hρ _ _ ak) aF)
     ·cases aW
    ·cases aW
   ·unfold s3 at aW
    split at aW
    ·rename_i E
     split at aW
     ·rename_i fX iu y' R I ak
      cases aW;obtain⟨aF,rfl⟩:=hU h rfl;exact hf.kv bY (WO (neg:=true) t x y dz hu E.1 E.2 R (hρ _ _ I) (hρ _ _ ak) aF)
     ·cases aW
    ·cases aW
   ·cases aW
  ·split at aW
   ·split at aW
    ·simp only[dI] at aW;obtain⟨_,_,rfl⟩:=aW
     cases h
    ·simp only[dI] at aW;obtain⟨_,_,rfl⟩:=aW
     cases h
    ·cases aW
   ·cases aW
  ·cases aW
 case unOp uop t x =>
  simp only[dI] at aW;obtain⟨y,ak,rfl⟩:=aW;obtain⟨aF,rfl⟩:=hU h rfl;exact hf.kv bY (agn (hρ _ _ ak) aF)
 case convert s t x =>
  split at aW
  ·rename_i fX k aa bV;simp only[dI] at aW;obtain⟨y,ak,rfl⟩:=aW;obtain⟨aF,rfl⟩:=hU h rfl;exact hf.kv bY (ago s t fX aa bV (hρ _ _ ak) aF)
  ·cases aW
 case makeFunc fn first en =>
  cases fn<;>simp only[reduceCtorEq] at aW
  split at aW
  ·rename_i eu;simp only[gv,gF,dQ,cz] at aW;obtain⟨cs,kP,rfl⟩:=aW;obtain⟨aF,rfl⟩:=hU (x:=some (.e5 _ (cs.map (bf tm)))) h rfl
   cases aF;have ahf:first=#[]:=Array.eq_empty_of_size_eq_zero eu
   subst ahf;have ax:=uF hρ kP;exact hf.kv bY ⟨_,by rw[xD en,Array.map_empty];rfl,.e5 ax.1 ax.2⟩
  ·cases aW
 case makeSlice t l c =>
  split at aW
  ·rename_i e he;simp only[gv,gF,dQ] at aW;obtain⟨z,a8,s,aa,b,ah,d,ae,a6⟩:=aW
   split at a6
   ·rename_i E;simp only[dQ,cz] at a6;obtain⟨hB,ax,c',jr,rfl⟩:=a6;simp only[cl] at h;obtain⟨mO,mP,D,G,ag⟩:=Xj h;obtain⟨rfl,au⟩:=E;exact hf.of (agO _ bY he a8 aa ah D G (hρ _ _ ax) (hρ _ _ jr) au ag)
   ·cases a6
  ·cases aW
 case slice t x ct Q iG =>
  split at aW
  ·rename_i e hu;simp only[gv,gF,dQ] at aW;obtain⟨s,aa,a6⟩:=aW
   split at a6
   ·simp only[dQ,cz] at a6;obtain⟨y,ak,Xo,fp,kU,hS,Ft,hq,rfl⟩:=a6;have kR:=zz hρ fp;have kd:=zz hρ hS;have BZ:=zz hρ hq
    cases Ft with
    |none =>
     cases iG with
     |some v=>simp[qB,dI] at hq
     |none =>
      obtain⟨aF,rfl⟩:=hU h rfl;obtain⟨l,ax,aF⟩:=n2 aF;obtain⟨len,hlen,aF⟩:=n2 aF;obtain⟨a6,zA,aF⟩:=n2 aF;exact hf.kv bY (agE hu aa ax hlen zA kR kd (hρ _ _ ak) aF)
    |some Ft =>
     cases kU with
     |none=>cases h
     |some kU =>
      cases Q with
      |none=>simp[oP] at kd
      |some Q =>
       cases iG with
       |none=>simp[oP] at BZ
       |some iG =>
        obtain⟨aF,rfl⟩:=hU h rfl;obtain⟨l,ax,aF⟩:=n2 aF;obtain⟨a6,zA,aF⟩:=n2 aF;obtain⟨m,hm,aF⟩:=n2 aF;exact hf.kv bY (agH hu aa ax zA hm kR kd BZ (hρ _ _ ak) aF)
   ·cases a6
  ·rename_i n e hu;simp only[gv,gF,dQ] at aW;obtain⟨s,aa,a6⟩:=aW
   split at a6
   ·rename_i E;simp only[dQ,cz] at a6;obtain⟨y,ak,Xo,fp,kU,hS,Ft,hq,rfl⟩:=a6;have kR:=zz hρ fp;have kd:=zz hρ hS
    cases Ft with
    |none =>
     cases iG with
     |some v=>simp[qB,dI] at hq
     |none =>
      obtain⟨aF,rfl⟩:=hU h rfl;obtain⟨l,ax,aF⟩:=n2 aF;obtain⟨a6,zA,aF⟩:=n2 aF;exact hf.kv bY (ag8 bY hu aa E.2 ax zA kR kd (hρ _ _ ak) aF)
    |some Ft=>cases h
   ·cases a6
  ·rename_i hu
   split at aW
   ·rename_i hq;simp only[gv,gF,dQ,cz] at aW;obtain⟨y,ak,Xo,fp,kU,hS,rfl⟩:=aW;have kR:=zz hρ fp;have kd:=zz hρ hS
    cases iG with
    |some v=>cases hq
    |none =>
     obtain⟨aF,rfl⟩:=hU h rfl;obtain⟨l,ax,aF⟩:=n2 aF;obtain⟨len,hlen,aF⟩:=n2 aF;obtain⟨a6,zA,aF⟩:=n2 aF;exact hf.kv bY (agI hu ax hlen zA kR kd (hρ _ _ ak) aF)
   ·cases aW
  ·cases aW
 case fieldAddr t x f =>
  split at aW
  ·rename_i dz hu;simp only[gv,gF,dQ] at aW;obtain⟨⟨ar,s⟩,aG,a6⟩:=aW
   split at a6
   ·rename_i au;simp only[dQ,cz] at a6;obtain⟨y,ak,rfl⟩:=a6;obtain⟨fd,D,G,ag⟩:=Xk aG;obtain⟨aF,rfl⟩:=hU h rfl;exact hf.kv bY (agp t f dz fd s hu D ag au G (hρ _ _ ak) aF)
   ·cases a6
  ·cases aW
 case field t x f =>
  split at aW
  ·rename_i dz hu;simp only[gv,gF,dQ,cz] at aW;obtain⟨fd,Xp,⟨ar,s⟩,aG,g,bw,y,ak,rfl⟩:=aW;obtain⟨avp,D,G,ag⟩:=Xk aG;rw[Xp] at D
   cases D;obtain⟨aF,rfl⟩:=hU h rfl;exact hf.kv bY (ags t f dz fd hu Xp ag bw G (hρ _ _ ak) aF)
  ·cases aW
 case indexAddr t x i =>
  split at aW
  ·rename_i e hu;simp only[gv,gF,dQ] at aW;obtain⟨s,aa,a6⟩:=aW
   split at a6
   ·simp only[dQ,cz] at a6;obtain⟨y,ak,j,ay,rfl⟩:=a6;obtain⟨aF,rfl⟩:=hU h rfl;obtain⟨n,aL,aF⟩:=n2 aF;obtain⟨k,R⟩:=BW aL (hρ _ _ ay);rw[R];exact hf.kv bY (agu t e hu aa (hρ _ _ ak) aF)
   ·cases a6
  ·rename_i len e hu;simp only[gv,gF,dQ] at aW;obtain⟨s,aa,a6⟩:=aW
   split at a6
   ·simp only[dQ,cz] at a6;obtain⟨y,ak,j,ay,rfl⟩:=a6;obtain⟨aF,rfl⟩:=hU h rfl;obtain⟨n,aL,aF⟩:=n2 aF;obtain⟨k,R⟩:=BW aL (hρ _ _ ay);rw[R];exact hf.kv bY (agv t e hu aa (hρ _ _ ak) aF)
   ·cases a6
  ·cases aW
 case index t x i =>
  split at aW
  ·rename_i hu;simp only[gv,gF,dQ,cz] at aW;obtain⟨y,ak,j,ay,rfl⟩:=aW;obtain⟨aF,rfl⟩:=hU h rfl;obtain⟨n,aL,aF⟩:=n2 aF;obtain⟨k,R⟩:=BW aL (hρ _ _ ay);rw[R];exact hf.kv bY (agw t hu (hρ _ _ ak) aF)
  ·cases aW
 case extract x i =>
  simp only[dI] at aW;obtain⟨y,ak,rfl⟩:=aW;obtain⟨aF,rfl⟩:=hU h rfl;exact hf.kv bY (agx (hρ _ _ ak) aF)
 case call c =>
  exact ahe bY hρ aW h
 all_goals cases aW
end Go.Mini
namespace Go.Mini
open Go
inductive iJ where
 |code (c:e6)
 |inBlock (id:Nat)
def dd (T:br)(K:fA->bz->Prop):List iJ->fA->bz->Prop
 | [],e,st=>K e st
 |.code c::k,.normal,st=>wp T c (dd T K k) st
 |.code _::k,.exit id,st=>dd T K k (.exit id) st
 |.code _::k,.ret,st=>dd T K k .ret st
 |.inBlock _::k,.normal,st=>dd T K k .normal st
 |.inBlock j::k,.exit id,st=>if id=j then dd T K k .normal st else dd T K k (.exit id) st
 |.inBlock _::k,.ret,st=>dd T K k .ret st
section
variable {T:br} {K:fA->bz->Prop} {k:List iJ} {st:bz}
theorem ahg (c:e6):(λe dy=>match e with
  |.normal=>wp T c (dd T K k) dy
  |e=>dd T K k e dy)=dd T K (.code c::k):=by
 funext e dy
 cases e<;>rfl
theorem ahh (id:Nat):(λe dy=>match e with
  |.exit j=>if j=id then dd T K k .normal dy else dd T K k (.exit j) dy
  |e=>dd T K k e dy)=dd T K (.inBlock id::k):=by
 funext e dy
 cases e<;>rfl
@[go_sem] theorem ahi (e:fA):dd T K [] e st=K e st:=by cases e<;>rfl
@[go_sem] theorem avq (c:e6):dd T K (.code c::k) .normal st=wp T c (dd T K k) st:=bC
@[go_sem] theorem avr (c:e6)(id:Nat):dd T K (.code c::k) (.exit id) st=dd T K k (.exit id) st:=bC
@[go_sem] theorem avs (c:e6):dd T K (.code c::k) .ret st=dd T K k .ret st:=bC
@[go_sem] theorem avt (id:Nat):dd T K (.inBlock id::k) .normal st=dd T K k .normal st:=bC
@[go_sem] theorem avu (id j:Nat):dd T K (.inBlock j::k) (.exit id) st=if id=j then dd T K k .normal st else dd T K k (.exit id) st:=bC
@[go_sem] theorem avv (id:Nat):dd T K (.inBlock id::k) .ret st=dd T K k .ret st:=bC
theorem B5 {c:e6}(h:wp T c (dd T K []) st):wp T c K st:=by
 have:dd T K []=K:=by funext e st;cases e<;>rfl
 rwa [this] at h
@[go_sem] theorem wp_seq (a b:e6):wp T (.seq a b) (dd T K k) st=wp T a (dd T K (.code b::k)) st:=by
 rw[<-ahg];rfl
@[go_sem] theorem wp_skip:wp T .skip (dd T K k) st=dd T K k .normal st:=bC
@[go_sem] theorem wp_ret:wp T .ret (dd T K k) st=dd T K k .ret st:=bC
@[go_sem] theorem wp_exit (id:Nat):wp T (.exit id) (dd T K k) st=dd T K k (.exit id) st:=bC
@[go_sem] theorem wp_block (id:Nat)(c:e6):wp T (.block id c) (dd T K k) st=wp T c (dd T K (.inBlock id::k)) st:=by
 rw[<-ahh];rfl
def n3 (T:br)(K:fA->bz->Prop)(k:List iJ)(m:O)(a b:e6)(st:bz):Prop :=
 match m with
 |.J (.bool t)=>if t=true then wp T a (dd T K k) st else wp T b (dd T K k) st
 |_=>False
@[go_sem] theorem wp_cond (c:bT)(a b:e6):wp T (.cond c a b) (dd T K k) st=n3 T K k (bf st.tm c) a b st:=bC
@[go_sem] theorem ahj (a b:e6):n3 T K k (.J (.bool true)) a b st=wp T a (dd T K k) st:=bC
@[go_sem] theorem ahk (a b:e6):n3 T K k (.J (.bool false)) a b st=wp T b (dd T K k) st:=bC
def B6 (T:br)(K:fA->bz->Prop)(k:List iJ)(l:List cZ)(st:bz):Prop:=uu T (dd T K k .normal) l st
@[go_sem] theorem wp_ops (l:List cZ):wp T (.ops l) (dd T K k) st=B6 T K k l st:=bC
@[go_sem] theorem avw:B6 T K k [] st=dd T K k .normal st:=bC
def oS (T:br)(K:fA->bz->Prop)(k:List iJ)(g:Option Bool)(i:cZ)(r:List cZ)(st:bz):Prop :=
 match g with
 |none=>False
 |some g=>if g=true then fJ T (uu T (dd T K k .normal) r) i st else B6 T K k r ⟨put st.tm i.dst .no,st.mem⟩
@[go_sem] theorem avx (i:cZ)(r:List cZ):B6 T K k (i::r) st=oS T K k (mK st.tm i.g) i r st:=bC
@[go_sem] theorem avy (i:cZ)(r:List cZ):oS T K k (some true) i r st=fJ T (B6 T K k r) i st:=bC
@[go_sem] theorem avz (i:cZ)(r:List cZ):oS T K k (some false) i r st=B6 T K k r ⟨put st.tm i.dst .no,st.mem⟩:=bC
def xE (T:br)(K:fA->bz->Prop)(k:List iJ)(n:Nat)(l:List cZ)(c:List (List Nat))(rec:Rec)(st:bz):Prop:=sY T (dd T K k .normal) n l c rec st
@[go_sem] theorem avA (l:List cZ)(c:List (List Nat)):wp T (.pN l c) (dd T K k) st=xE T K k 0 l c (λ_=>none) st:=bC
@[go_sem] theorem avB (n:Nat)(c:List (List Nat))(rec:Rec):xE T K k n [] c rec st=dd T K k .normal st:=bC
def oT (T:br)(K:fA->bz->Prop)(k:List iJ)(n:Nat)(g:Option Bool)(i:cZ)(r:List cZ)(c:List (List Nat))(rec:Rec)(st:bz):Prop :=
 match g with
 |none=>False
 |some g=>if g=true then (match gM T st.mem st.tm i.op with
    |some (m,e)=>BI rec (ig i.op,dq st.tm i.op) (c.headD [])=true/\xE T K k (n+1) r c.tail (rN rec n (ig i.op,dq st.tm i.op)) ⟨put st.tm i.dst m,hd st.mem e⟩
    |none=>False) else xE T K k (n+1) r c.tail rec ⟨put st.tm i.dst .no,st.mem⟩
@[go_sem] theorem avC (n:Nat)(i:cZ)(r:List cZ)(c:List (List Nat))(rec:Rec):xE T K k n (i::r) c rec st=oT T K k n (mK st.tm i.g) i r c rec st:=bC
def Xq (T:br)(K:fA->bz->Prop)(k:List iJ)(n:Nat)(x:Option (O×Option (Key×Nat×List O)))(i:cZ)(r:List cZ)(c:List (List Nat))(rec:Rec)(st:bz):Prop :=
 match x with
 |some (m,e)=>BI rec (ig i.op,dq st.tm i.op) (c.headD [])=true/\xE T K k (n+1) r c.tail (rN rec n (ig i.op,dq st.tm i.op)) ⟨put st.tm i.dst m,hd st.mem e⟩
 |none=>False
@[go_sem] theorem avD (n:Nat)(i:cZ)(r:List cZ)(c:List (List Nat))(rec:Rec):oT T K k n (some true) i r c rec st=Xq T K k n (gM T st.mem st.tm i.op) i r c rec st:=bC
@[go_sem] theorem avE (n:Nat)(i:cZ)(r:List cZ)(c:List (List Nat))(rec:Rec):oT T K k n (some false) i r c rec st=xE T K k (n+1) r c.tail rec ⟨put st.tm i.dst .no,st.mem⟩:=bC
@[go_sem] theorem avF (n:Nat)(m:O)(e:Option (Key×Nat×List O))(i:cZ)(r:List cZ)(c:List (List Nat))(rec:Rec):Xq T K k n (some (m,e)) i r c rec st =
 (BI rec (ig i.op,dq st.tm i.op) (c.headD [])=true/\xE T K k (n+1) r c.tail (rN rec n (ig i.op,dq st.tm i.op)) ⟨put st.tm i.dst m,hd st.mem e⟩):=bC
end
section
variable {T:br} {K:bz->Prop} {st:bz} {tm:Nat->O} {mem:Mem}
def wpS (K:bz->Prop)(x:Option (O×Option (Key×Nat×List O)))(d:Option Nat)(st:bz):Prop :=
 match x with
 |some (m,e)=>K ⟨put st.tm d m,hd st.mem e⟩
 |none=>False
@[go_sem] theorem avG (m:O)(e:Option (Key×Nat×List O))(d:Option Nat):wpS K (some (m,e)) d st=K ⟨put st.tm d m,hd st.mem e⟩:=bC
variable (d:Option Nat) (g:Option (Nat×Bool))
@[go_sem] theorem avH (x:bT):fJ T K ⟨d,g,.ck x⟩ st=K ⟨put st.tm d (bf st.tm x),st.mem⟩:=bC
@[go_sem] theorem avI (c a b:bT):fJ T K ⟨d,g,.pick c a b⟩ st=wpS K (cl st.mem st.tm (.pick c a b)) d st:=bC
@[go_sem] theorem avJ (k:Key)(z:List O):fJ T K ⟨d,g,.alloc k z⟩ st=K ⟨put st.tm d (.ptr k (b7 st.mem k) 0),bI st.mem k (b7 st.mem k) z⟩:=bC
@[go_sem] theorem avK (k:Key)(x:bT):fJ T K ⟨d,g,.box k x⟩ st=wpS K (cl st.mem st.tm (.box k x)) d st:=bC
@[go_sem] theorem avL (z:List O)(ps:List (Nat×Nat×bT)):fJ T K ⟨d,g,.build z ps⟩ st=wpS K (cl st.mem st.tm (.build z ps)) d st:=bC
@[go_sem] theorem avM (k:Key)(ar:Bool)(z:List O)(sz len:Nat)(ps:List (Nat×Nat×bT)):fJ T K ⟨d,g,.fz k ar z sz len ps⟩ st=wpS K (cl st.mem st.tm (.fz k ar z sz len ps)) d st:=bC
@[go_sem] theorem avN (n:Nat)(dE:Bool)(x:bT):fJ T K ⟨d,g,.load n dE x⟩ st=wpS K (cl st.mem st.tm (.load n dE x)) d st:=bC
@[go_sem] theorem avO (n:Nat)(x v:bT):fJ T K ⟨d,g,.store n x v⟩ st=wpS K (cl st.mem st.tm (.store n x v)) d st:=bC
@[go_sem] theorem avP (op:BinOp)(x y:bT):fJ T K ⟨d,g,.bin op x y⟩ st=wpS K (cl st.mem st.tm (.bin op x y)) d st:=bC
@[go_sem] theorem avQ (b:Bool)(n:List Nat)(x y:bT):fJ T K ⟨d,g,.eqs b n x y⟩ st=wpS K (cl st.mem st.tm (.eqs b n x y)) d st:=bC
@[go_sem] theorem avR (b:Bool)(x y:bT):fJ T K ⟨d,g,.beq b x y⟩ st=wpS K (cl st.mem st.tm (.beq b x y)) d st:=bC
@[go_sem] theorem avS (op:UnOp)(x:bT):fJ T K ⟨d,g,.un op x⟩ st=wpS K (cl st.mem st.tm (.un op x)) d st:=bC
@[go_sem] theorem avT (k:IntKind)(x:bT):fJ T K ⟨d,g,.conv k x⟩ st=wpS K (cl st.mem st.tm (.conv k x)) d st:=bC
@[go_sem] theorem avU (x:bT):fJ T K ⟨d,g,.zf x⟩ st=wpS K (cl st.mem st.tm (.zf x)) d st:=bC
@[go_sem] theorem avV (k:Key)(z:List O)(b:Nat)(x y:bT):fJ T K ⟨d,g,.mb k z b x y⟩ st=wpS K (cl st.mem st.tm (.mb k z b x y)) d st:=bC
@[go_sem] theorem avW (ar:Nat)(x:bT):fJ T K ⟨d,g,.c3 ar x⟩ st=wpS K (cl st.mem st.tm (.c3 ar x)) d st:=bC
@[go_sem] theorem avX (ar n:Nat)(dE:Bool)(x:bT):fJ T K ⟨d,g,.zg ar n dE x⟩ st=wpS K (cl st.mem st.tm (.zg ar n dE x)) d st:=bC
@[go_sem] theorem avY (s:Nat)(x i:bT):fJ T K ⟨d,g,.jO s x i⟩ st=wpS K (cl st.mem st.tm (.jO s x i)) d st:=bC
@[go_sem] theorem avZ (n s:Nat)(x i:bT):fJ T K ⟨d,g,.zh n s x i⟩ st=wpS K (cl st.mem st.tm (.zh n s x i)) d st:=bC
@[go_sem] theorem av0 (x i:bT):fJ T K ⟨d,g,.idxs x i⟩ st=wpS K (cl st.mem st.tm (.idxs x i)) d st:=bC
@[go_sem] theorem av1 (s:Nat)(x:bT)(a b c:Option bT):fJ T K ⟨d,g,.m9 s x a b c⟩ st=wpS K (cl st.mem st.tm (.m9 s x a b c)) d st:=bC
@[go_sem] theorem av2 (n s:Nat)(x:bT)(a b c:Option bT):fJ T K ⟨d,g,.rI n s x a b c⟩ st=wpS K (cl st.mem st.tm (.rI n s x a b c)) d st:=bC
@[go_sem] theorem av3 (x:bT)(a b:Option bT):fJ T K ⟨d,g,.zi x a b⟩ st=wpS K (cl st.mem st.tm (.zi x a b)) d st:=bC
@[go_sem] theorem av4 (i:Nat)(x:bT):fJ T K ⟨d,g,.ext i x⟩ st=wpS K (cl st.mem st.tm (.ext i x)) d st:=bC
@[go_sem] theorem av5 (x:bT):fJ T K ⟨d,g,.len x⟩ st=wpS K (cl st.mem st.tm (.len x)) d st:=bC
@[go_sem] theorem av6 (x:bT):fJ T K ⟨d,g,.lens x⟩ st=wpS K (cl st.mem st.tm (.lens x)) d st:=bC
@[go_sem] theorem av7 (k:Key)(z:List O)(b:Nat)(s x:bT):fJ T K ⟨d,g,.app k z b s x⟩ st=wpS K (cl st.mem st.tm (.app k z b s x)) d st:=bC
@[go_sem] theorem av8 (z:List O)(x:bT):fJ T K ⟨d,g,.pM z x⟩ st=wpS K (cl st.mem st.tm (.pM z x)) d st:=bC
@[go_sem] theorem av9 (s:Nat)(x y:bT):fJ T K ⟨d,g,.rJ s x y⟩ st=wpS K (cl st.mem st.tm (.rJ s x y)) d st:=bC
@[go_sem] theorem awa (b:Bool)(x y:bT):fJ T K ⟨d,g,.jP b x y⟩ st=wpS K (cl st.mem st.tm (.jP b x y)) d st:=bC
@[go_sem] theorem awb (f:FuncId)(l:List bT):fJ T K ⟨d,g,.qz f l⟩ st=wpS K (cl st.mem st.tm (.qz f l)) d st:=bC
def tb (K:bz->Prop)(x:Option gg)(d:Option Nat)(st:bz):Prop :=
 match x with
 |some (.same r)=>K ⟨put st.tm d (.J r),st.mem⟩
 |some (.own _ es)=>K ⟨put st.tm d (.J (.X es)),st.mem⟩
 |some (.rel cD)=>∀r mem',cD r mem'->K ⟨put st.tm d r,mem'⟩
 |some (.hO r k g i c)=>K ⟨put st.tm d (.J r),bI st.mem k g ((zj st.mem k).set i c)⟩
 |some (.vF r k)=>K ⟨put st.tm d (.J r),bI st.mem k (b7 st.mem k) []⟩
 |none=>False
@[go_sem] theorem awc (f:FuncId)(l:List bT):fJ T K ⟨d,g,.call f l⟩ st=tb K (T f (l.map (bf st.tm)) st.mem) d st:=bC
@[go_sem] theorem awd (r:Data)(k:Key)(g i:Nat)(c:O):tb K (some (.hO r k g i c)) d st=K ⟨put st.tm d (.J r),bI st.mem k g ((zj st.mem k).set i c)⟩:=bC
@[go_sem] theorem awe (r:Data)(k:Key):tb K (some (.vF r k)) d st=K ⟨put st.tm d (.J r),bI st.mem k (b7 st.mem k) []⟩:=bC
@[go_sem] theorem awf (r:Data):tb K (some (.same r)) d st=K ⟨put st.tm d (.J r),st.mem⟩:=bC
@[go_sem] theorem awg (s:Nat)(es:List (List Data)):tb K (some (.own s es)) d st=K ⟨put st.tm d (.J (.X es)),st.mem⟩:=bC
@[go_sem] theorem ahl (cD:O->Mem->Prop):tb K (some (.rel cD)) d st=∀r mem',cD r mem'->K ⟨put st.tm d r,mem'⟩:=bC
def Nw (T:br)(K:bz->Prop)(m:O)(args:List O)(d:Option Nat)(st:bz):Prop :=
 match m with
 |.e5 g en=>tb K (T g (args++en) st.mem) d st
 |.J (.fn g ds)=>tb K (T g (args++ds.map .J) st.mem) d st
 |_=>False
@[go_sem] theorem awh (f:bT)(l:List bT):fJ T K ⟨d,g,.iY f l⟩ st=Nw T K (bf st.tm f) (l.map (bf st.tm)) d st:=bC
@[go_sem] theorem awi (f:FuncId)(en args:List O):Nw T K (.e5 f en) args d st=tb K (T f (args++en) st.mem) d st:=bC
@[go_sem] theorem awj (f:FuncId)(ds:List Data)(args:List O):Nw T K (.J (.fn f ds)) args d st=tb K (T f (args++ds.map .J) st.mem) d st:=bC
def Nx (K:bz->Prop)(x:Option gg)(k:Key)(sz:Nat)(d:Option Nat)(st:bz):Prop :=
 match x with
 |some (.own dZ es)=>if dZ=sz then K ⟨put st.tm d (.ref k (b7 st.mem k) sz 0 (o es)),bI st.mem k (b7 st.mem k) (es.flatten.map .J)⟩ else False
 |_=>False
@[go_sem] theorem awk (k:Key)(sz:Nat)(f:FuncId)(l:List bT):fJ T K ⟨d,g,.na k sz f l⟩ st=Nx K (T f (l.map (bf st.tm)) st.mem) k sz d st:=bC
@[go_sem] theorem awl (k:Key)(sz:Nat)(es:List (List Data)):Nx K (some (.own sz es)) k sz d st=K ⟨put st.tm d (.ref k (b7 st.mem k) sz 0 (o es)),bI st.mem k (b7 st.mem k) (es.flatten.map .J)⟩:=by simp[Nx]
def Xr (K:bz->Prop)(neg:Bool)(x:Option Bool)(d:Option Nat)(st:bz):Prop :=
 match x with
 |some full=>∀b:Bool,(full=true->b=false)->K ⟨put st.tm d (.J (.bool (neg != b))),st.mem⟩
 |none=>False
@[go_sem] theorem awm (neg:Bool)(x:bT):fJ T K ⟨d,g,.pK neg x⟩ st=Xr K neg (zk (bf st.tm x)) d st:=bC
@[go_sem] theorem awn (neg full:Bool):Xr K neg (some full) d st=∀b:Bool,(full=true->b=false)->K ⟨put st.tm d (.J (.bool (neg != b))),st.mem⟩:=bC
end
section
variable {tm:Nat->O} {mem:Mem}
@[go_sem] theorem awo (s:Nat):bf tm (.t s)=tm s:=bC
@[go_sem] theorem awp (m:O):bf tm (.c m)=m:=bC
@[go_sem] theorem awq (s:Nat)(m:O):put tm (some s) m=hO tm s m:=bC
@[go_sem] theorem awr (m:O):put tm none m=tm:=bC
@[go_sem] theorem aws (s:Nat)(m:O)(t:Nat):hO tm s m t=if t=s then m else tm t:=bC
@[go_sem] theorem awt (k:Key)(g:Nat)(cs:List O)(j:Key):bI mem k g cs j=if j=k then some (g,cs) else mem j:=bC
@[go_sem] theorem awu:hd mem none=mem:=bC
@[go_sem] theorem awv (k:Key)(g:Nat)(cs:List O):hd mem (some (k,g,cs))=bI mem k g cs:=bC
def uH:Option (Nat×List O)->Nat
 |none=>0
 |some (g,_)=>g+1
@[go_sem] theorem aww (k:Key):b7 mem k=uH (mem k):=by unfold b7 uH;rfl
@[go_sem] theorem awx:uH none=0:=bC
@[go_sem] theorem awy (g:Nat)(cs:List O):uH (some (g,cs))=g+1:=bC
@[go_sem] theorem awz (k:Key):emp k=none:=bC
@[go_sem] theorem awA:mK tm none=some true:=bC
def Jn (m:O)(b:Bool):Option Bool :=
 match m with
 |.J (.bool t)=>some (t==b)
 |.no=>some false
 |_=>none
@[go_sem] theorem awB (s:Nat)(b:Bool):mK tm (some (s,b))=Jn (tm s) b:=bC
@[go_sem] theorem awC (b:Bool):Jn .no b=some false:=bC
variable (op:iF)
@[go_sem] theorem awD (m:O):hP (some m)=some (m,none):=bC
@[go_sem] theorem awE (x:bT):cl mem tm (.ck x)=some (bf tm x,none):=bC
@[go_sem] theorem awF (c a b:bT):cl mem tm (.pick c a b)=hP (BD (bf tm c) (bf tm a) (bf tm b)):=bC
@[go_sem] theorem awG (a b:O):BD (.J (.bool true)) a b=some a:=bC
@[go_sem] theorem awH (a b:O):BD (.J (.bool false)) a b=some b:=bC
@[go_sem] theorem awI (k:Key)(z:List O):cl mem tm (.alloc k z)=some (.ptr k (b7 mem k) 0,some (k,b7 mem k,z)):=bC
@[go_sem] theorem awJ (k:Key)(x:bT):cl mem tm (.box k x)=if (bf tm x).known=true then some (.ptr k (b7 mem k) 0,some (k,b7 mem k,(bf tm x).cells)) else none:=bC
@[go_sem] theorem awK (z:List O)(ps:List (Nat×Nat×bT)):cl mem tm (.build z ps)=hP ((iZ (bf tm) z ps).map .agg):=bC
@[go_sem] theorem awL (k:Key)(z:List O)(sz len:Nat)(ps:List (Nat×Nat×bT)):cl mem tm (.fz k false z sz len ps)=hP (EM z sz len (iZ (bf tm) z ps)):=bC
@[go_sem] theorem awM (k:Key)(z:List O)(sz len:Nat)(ps:List (Nat×Nat×bT)):cl mem tm (.fz k true z sz len ps)=BE k (b7 mem k) z sz len (iZ (bf tm) z ps):=bC
@[go_sem] theorem awN (n:Nat)(dE:Bool)(x:bT):cl mem tm (.load n dE x)=hP (nU mem n dE (bf tm x)):=bC
@[go_sem] theorem awO (n:Nat)(x v:bT):cl mem tm (.store n x v)=uq mem n (bf tm x) (bf tm v).cells:=bC
@[go_sem] theorem awP (b:BinOp)(x y:bT):cl mem tm (.bin b x y)=hP (EJ b (bf tm x) (bf tm y)):=bC
@[go_sem] theorem awQ (neg:Bool)(x y:bT):cl mem tm (.beq neg x y)=hP (EK neg (bf tm x) (bf tm y)):=bC
@[go_sem] theorem awR (neg:Bool)(n:List Nat)(x y:bT):cl mem tm (.eqs neg n x y)=hP (EO neg n (bf tm x) (bf tm y)):=bC
@[go_sem] theorem awS (u:UnOp)(x:bT):cl mem tm (.un u x)=hP (EL u (bf tm x)):=bC
@[go_sem] theorem awT (k:IntKind)(x:bT):cl mem tm (.conv k x)=hP (EP k (bf tm x)):=bC
@[go_sem] theorem awU (x:bT):cl mem tm (.zf x)=hP (ER (bf tm x)):=bC
@[go_sem] theorem awV (k:Key)(z:List O)(b:Nat)(x y:bT):cl mem tm (.mb k z b x y)=E3 (idx (bf tm x)) (idx (bf tm y)) (BF k (b7 mem k) z b):=bC
@[go_sem] theorem awW (ar:Nat)(x:bT):cl mem tm (.c3 ar x)=hP (ES ar (bf tm x)):=bC
@[go_sem] theorem awX (ar n:Nat)(dE:Bool)(x:bT):cl mem tm (.zg ar n dE x)=hP (ET ar n dE (bf tm x)):=bC
@[go_sem] theorem awY (s:Nat)(x i:bT):cl mem tm (.jO s x i)=hP (g5 (idx (bf tm i)) λn=>EU s n (bf tm x)):=bC
@[go_sem] theorem awZ (n s:Nat)(x i:bT):cl mem tm (.zh n s x i)=hP (g5 (idx (bf tm i)) λm=>EV n s m (bf tm x)):=bC
@[go_sem] theorem aw0 (x i:bT):cl mem tm (.idxs x i)=hP (g5 (idx (bf tm i)) λn=>EW n (bf tm x)):=bC
@[go_sem] theorem aw1 (s:Nat)(x:bT)(ct Q:Option bT):cl mem tm (.m9 s x ct Q none)=hP (g5 (ie 0 (ct.map (bf tm))) λl=>g5 (rL (bf tm x)) λlen=>g5 (ie len (Q.map (bf tm))) λh=>EX s l h (bf tm x)):=bC
@[go_sem] theorem aw2 (s:Nat)(x h m:bT)(ct:Option bT):cl mem tm (.m9 s x ct (some h) (some m)) =
 hP (g5 (ie 0 (ct.map (bf tm))) λl=>g5 (idx (bf tm h)) λh=>g5 (idx (bf tm m)) λm=>EY s l h m (bf tm x)):=bC
@[go_sem] theorem aw3 (n s:Nat)(x:bT)(ct Q:Option bT):cl mem tm (.rI n s x ct Q none)=hP (g5 (ie 0 (ct.map (bf tm))) λl=>g5 (ie n (Q.map (bf tm))) λh=>xv mem n s l h (bf tm x)):=bC
@[go_sem] theorem aw4 (x:bT)(ct Q:Option bT):cl mem tm (.zi x ct Q)=hP (g5 (ie 0 (ct.map (bf tm))) λl=>g5 (vE (bf tm x)) λlen=>g5 (ie len (Q.map (bf tm))) λh=>EZ l h (bf tm x)):=bC
@[go_sem] theorem aw5 (i:Nat)(x:bT):cl mem tm (.ext i x)=hP (E0 i (bf tm x)):=bC
@[go_sem] theorem aw6 (x:bT):cl mem tm (.len x)=hP (g5 (rL (bf tm x)) λn=>some (.J (.int .i64 n))):=bC
@[go_sem] theorem aw7 (x:bT):cl mem tm (.lens x)=hP (g5 (vE (bf tm x)) λn=>some (.J (.int .i64 n))):=bC
@[go_sem] theorem aw8 (k:Key)(z:List O)(b:Nat)(s x:bT):cl mem tm (.app k z b s x)=oK mem k z b (bf tm s) (nW mem (o z) (bf tm x)):=bC
@[go_sem] theorem aw9 (z:List O)(x:bT):cl mem tm (.pM z x)=ur mem z (bf tm x):=bC
@[go_sem] theorem axa (s:Nat)(x y:bT):cl mem tm (.rJ s x y)=sW mem s (bf tm x) (nW mem s (bf tm y)):=bC
@[go_sem] theorem axb (b:Bool)(x y:bT):cl mem tm (.jP b x y)=hP (E1 b (bf tm x) (bf tm y)):=bC
@[go_sem] theorem axc (f:FuncId)(l:List bT):cl mem tm (.qz f l)=some (.e5 f (l.map (bf tm)),none):=bC
@[go_sem] theorem axd (n:Nat)(f:Nat->Option O):g5 (some n) f=f n:=bC
@[go_sem] theorem axe (n m:Nat)(f:Nat->Nat->Out):E3 (some n) (some m) f=f n m:=bC
def Jo (n:Nat)(dE:Bool)(g off:Nat):Option (Nat×List O)->Option O
 |some (c4,cs)=>if c4=g then (cut cs off n).bind (oJ dE) else none
 |none=>none
@[go_sem] theorem axf (n:Nat)(dE:Bool)(k:Key)(g off:Nat):nU mem n dE (.ptr k g off)=Jo n dE g off (mem k):=by unfold nU Jo;rfl
@[go_sem] theorem axg (n:Nat)(dE:Bool)(g off:Nat)(cs:List O):Jo n dE g off (some (g,cs))=(cut cs off n).bind (oJ dE):=by simp[Jo]
@[go_sem] theorem axh (n:Nat)(dE:Bool)(ds:List Data):nU mem n dE (.J (.ptr ds))=(cut (ds.map .J) 0 n).bind (oJ dE):=bC
@[go_sem] theorem axi (n:Nat)(k:Key)(g off:Nat)(v:List O):uq mem n (.ptr k g off) v=E6 n k g off v (mem k):=bC
@[go_sem] theorem axj (cs:List O):oJ true cs=some (.agg cs):=bC
@[go_sem] theorem axk (m:O):oJ false [m]=some m:=bC
@[go_sem] theorem axl (cs:List O):(O.agg cs).cells=cs:=bC
@[go_sem] theorem axm (cs:List Data):(O.J (.agg cs)).cells=cs.map .J:=bC
@[go_sem] theorem axn (k:IntKind)(n:Int):(O.J (.int k n)).cells=[.J (.int k n)]:=bC
@[go_sem] theorem axo (b:Bool):(O.J (.bool b)).cells=[.J (.bool b)]:=bC
@[go_sem] theorem axp (l:List UInt8):(O.J (.str l)).cells=[.J (.str l)]:=bC
@[go_sem] theorem axq (l:List (List Data)):(O.J (.X l)).cells=[.J (.X l)]:=bC
@[go_sem] theorem axr (l:List Data):(O.J (.ptr l)).cells=[.J (.ptr l)]:=bC
@[go_sem] theorem axs (f:FuncId)(l:List Data):(O.J (.fn f l)).cells=[.J (.fn f l)]:=bC
@[go_sem] theorem axt:O.nil.cells=[.nil]:=bC
@[go_sem] theorem axu (k:Key)(g s ar l:Nat):(O.ref k g s ar l).cells=[.ref k g s ar l]:=bC
@[go_sem] theorem axv (k:Key)(g ar:Nat):(O.ptr k g ar).cells=[.ptr k g ar]:=bC
@[go_sem] theorem axw (f:FuncId)(l:List O):(O.e5 f l).cells=[.e5 f l]:=bC
@[go_sem] theorem axx (k:IntKind)(n:Nat):idx (.J (.int k (n:Int)))=some n:=by simp[idx]
@[go_sem] theorem axy (k:IntKind):idx (.J (.int k 0))=some 0:=bC
@[go_sem low] theorem axz (k:IntKind)(n:Int):idx (.J (.int k n))=if 0<=n then some n.toNat else none:=bC
end
attribute [go_sem] EN EK EJ EL EP ER ES ET EU EV EW EX EY xv M6 EZ E0 E1 ie rL vE E6 sW I4 ur I5 BF BE EM EO xu I3 iZ j9 cut chunk
 BC I0 I1 I2 zk shut rK O.one O.known nW nV dq BG E7 oL zj BH E9 M8 Fa M9 E8 M7 I6 sX keyOf ig BI oM rN gM nd BJ nc
end Go.Mini
namespace Go.Mini
open Go
variable {P:Program} {A:Nat->Prop} {w:World} {B:Lay} {mem:Mem}
def xF (w aI:World)(aS:Nat->Prop)(sz:Nat)(es:List (List Data))(v:Value):Prop :=
 (∀e∈es,o e=sz)/\∃a cap,v=.slice a (o es) cap/\o es<=cap/\cap<=maxLen /\
  (cap=0\/∃b vs T,a=some ⟨b,0,none⟩/\w.heap.size<=b/\aI.heap[b]?=some (.cells vs T (0,0))/\cap*sz<=vs.size /\
   ∀(i:Nat) (d:Data),es.flatten[i]?=some d->∃u,vs[i]?=some u/\Den aI (λdO=>aS dO\/dO=b) d u)
def Jp (P:Program)(f:FuncId)(vs:List Value)(A:Nat->Prop)(w:World)(B:Lay)(mem:Mem):gg->Prop
 |.same r=>Calls P f vs.toArray w λe aI=>∃v,e=.returned v/\Fr (λ_=>False) w aI/\Den aI (ca A B) r v
 |.own sz es=>Calls P f vs.toArray w λe aI=>∃v,e=.returned v/\Fr (λ_=>False) w aI/\xF w aI (ca A B) sz es v
 |.rel cD=>Calls P f vs.toArray w λe aI=>∃v r mem' bB,e=.returned v/\ea A w B aI bB mem'/\bA aI (ca A bB) bB r v/\cD r mem'
 |.vF r k=>Calls P f vs.toArray w λe aI=>∃v bB,e=.returned v/\ea A w B aI bB (bI mem k (b7 mem k) [])/\bA aI (ca A bB) bB (.J r) v
 |.hO r k g i c=>Calls P f vs.toArray w λe aI=>∃v bB,e=.returned v/\ea A w B aI bB (bI mem k g ((zj mem k).set i c))/\bA aI (ca A bB) bB (.J r) v
def Real (P : Program)(f : FuncId): Prop := ∃ fn c, P.funcs[f]? = some fn /\ fn.body = some c /\ (fn.name == "runtime.NumGoroutine") = false
def oU (P:Program)(T:br):Prop:=∀f args mem np,T f args mem=some np->Real P f /\
 ∀A w B vs,eK A w B mem->db w (ca A B) B args vs->Jp P f vs A w B mem np
theorem Jq {f:FuncId}(h:Real P f)(args:Array Value):(callFunc f args).run P w=.ok (.enter f args) w:=by
 obtain⟨fn,c,aN,ah,aL⟩:=h;have D : fn.name ≠ "runtime.NumGoroutine" := by simpa using aL
 simp[callFunc,aN,D,ah]
theorem Den.less {w:World}{aS kr:Nat->Prop}(h:∀b,kr b->aS b){d:Data}{v:Value}(ae:Den w aS d v):Den w kr d v :=
 ae.oI (cA _) λb _ ah=>⟨rfl,λI=>ah (h b I)⟩
theorem xF.den {w aI:World}{aS:Nat->Prop}{sz:Nat}{es:List (List Data)}{v:Value}(az:∀b,aS b->b<w.heap.size)(h:xF w aI aS sz es v):Den aI aS (.X es) v:=by
 obtain⟨he,a,cap,rfl,D,G,ag⟩:=h;rcases ag with rfl|⟨b,vs,T,rfl,aR,bs,b1,cd⟩
 ·have:es=[]:=mL (by omega);subst this;exact .j7
 ·have zB:b<aI.heap.size:=(Array.getElem?_eq_some_iff.1 bs).1;refine .X (sz:=sz) (λi=>vs.getD i undef) D (by omega) zB (λbM=>by have:=az b bM;omega) he (λi Q=>?_) λi d ae=>?_
  ·have az:i<o es.flatten:=by rw[IX he];exact Q
   obtain⟨u,hu,_⟩:=cd i _ (bL az);rw[cell_of_row aI b _ vs T (0,0) bs,ku,Array.getD_eq_getD_getElem?,hu]
   rfl
  ·obtain⟨u,hu,ae⟩:=cd i d ae;rw[Array.getD_eq_getD_getElem?,hu];exact ae.less λb h => .inl h
theorem Xs {aI:World}{sz:Nat}{es:List (List Data)}{v:Value}(k:Key)(bY:eK A w B mem)(f:Fr (λ_=>False) w aI)(h:xF w aI (ca A B) sz es v):
  ∃bB,ea A w B aI bB (bI mem k (b7 mem k) (es.flatten.map .J))/\bA aI (ca A bB) bB (.ref k (b7 mem k) sz 0 (o es)) v:=by
 obtain⟨he,a,cap,rfl,D,G,ag⟩:=h;have still:=ea.still bY f;rcases ag with rfl|⟨b,vs,T,rfl,aR,bs,b1,cd⟩
 ·have:es=[]:=mL (by omega);subst this;exact⟨_,still.trans (ea.uy still.dC k),.ref (gE _ _ _) (cA _) ⟨_,0,rfl,D,G,.inl rfl⟩⟩
 ·have zB:b<aI.heap.size:=(Array.getElem?_eq_some_iff.1 bs).1
  have iH:∀dO,(⟨b7 mem k,some b,vs.size⟩:ks).dc=some dO->w.heap.size<=dO\/∃e,B k=some e/\e.dc=some dO:=λdO g6=>by
   cases g6;exact .inl aR
  have nj:=IX he;have hmul:(o es)*sz<=cap*sz:=rS _ D;have hold:∀dO,dO<w.heap.size->(∀e,B k=some e->e.dc≠some dO)->aI.heap[dO]?=w.heap[dO]?:=λdO g6 _=>f.block dO g6 id;have bw:∀e,B k=some e->(⟨b7 mem k,some b,vs.size⟩:ks)=e\/e.g<(⟨b7 mem k,some b,vs.size⟩:ks).g:=λe he => .inr (zm bY k e he);refine⟨fG B k ⟨b7 mem k,some b,vs.size⟩,⟨?_,Trans.change f.size hold bw iH,⟨f.os,f.tape,f.output,f.size,λdO g6 _=>f.block dO g6 id⟩,I7 iH⟩,?_⟩
  ·refine bY.Nd (e':=⟨b7 mem k,some b,vs.size⟩) f.size hold bw iH (λh=>by cases h) λdO g6=>?_
   cases g6;refine⟨vs,T,bs,rfl,by rw[af,nj];omega,λi m hm=>?_⟩
   rw[bb,dI] at hm;obtain⟨d,ae,rfl⟩:=hm;obtain⟨u,hu,qL⟩:=cd i d ae;refine⟨u,hu,.J (qL.less λdO g6=>?_)⟩;rcases g6 with ⟨j,e,ay,I⟩|aM
   ·by_cases dT:j=k
    ·subst dT;rw[gE] at ay
     cases ay
     cases I;exact .inr rfl
    ·rw[gu B _ dT] at ay;exact .inl (.inl ⟨j,e,ay,I⟩)
   ·exact .inl (.inr aM)
  ·exact .ref (gE _ _ _) (cA _) ⟨_,cap,rfl,D,G,.inr ⟨b,rfl,λ_=>⟨rfl,by simpa using b1⟩⟩⟩
end Go.Mini
namespace Go.Mini
open Go
variable {P:Program} {T:br} {A:Nat->Prop} {ee w:World} {gH B:Lay} {mem:Mem} {n:Nat}
structure gT (n:Nat) (A:Nat->Prop) (ee:World) (gH:Lay) (a:Act) (st:bz) (w:World) (B:Lay):Prop where
 ok:ea A ee gH w B st.mem
 tm:∀s,bA w (ca A B) B (st.tm s) (a.eval (.tmp s))
 sz:a.tmps.size=n
 Fu:a.defers=[]
theorem gT.qM {a:Act}{st:bz}(h:gT n A ee gH a st w B)(x:Operand)(y:bT)(I:dt x=some y):bA w (ca A B) B (bf st.tm y) (a.eval x):=by
 cases x<;>simp only[dt,cz,dI,reduceCtorEq] at I
 ·subst I;exact h.tm _
 ·obtain⟨m,hm,rfl⟩:=I;exact af6 hm
 ·subst I;exact .e5 (vs:=[]) rfl λi d v D=>by simp at D
theorem ahm {a:Act}{s:Nat}{v:Value}(h:s<a.tmps.size):(a.put (some s) v).eval (.tmp s)=v:=by
 simp[Act.eval,Act.put,h]
theorem gT.put {a:Act}{st:bz}{aI:World}{bB:Lay}{mem':Mem}{dst:Option Nat}{r:O}{v:Value}(h:gT n A ee gH a st w B)(aa:ea A w B aI bB mem')(U:bA aI (ca A bB) bB r v)
  (ae:dst.all (λd=>decide (d<n))=true):gT n A ee gH (a.put dst v) ⟨Mini.put st.tm dst r,mem'⟩ aI bB:=by
 refine⟨h.ok.trans aa,λs=>?_,?_,?_⟩
 ·cases dst with
  |none=>exact (h.tm s).oI aa.kO
  |some d =>
   simp only[Option.all_some,decide_eq_true_eq] at ae
   by_cases Ny:s=d
   ·subst Ny;rw[ahm (by rw[h.sz];exact ae)];simp only[Mini.put,hO,if_true];exact U
   ·rw[Act.eval_put (λuG D G=>by cases D;cases G;exact Ny rfl)];simp only[Mini.put,hO,aq Ny];exact (h.tm s).oI aa.kO
 ·cases dst<;>simp[Act.put,h.sz]
 ·cases dst<;>simp[Act.put,h.Fu]
theorem Nz {a:Act}{st:bz}{ops:Array Oper}{ar:Oper}{g:Option (Nat×Bool)}{b:Bool}(h:gT n A ee gH a st w B)(bw:Ff ops ar.guard=some g)(ah:mK st.tm g=some b):
  Region.wanted ar (yielded ops a.tmps)=b:=by
 unfold Region.wanted
 cases s6:ar.guard with
 |none =>
  rw[s6] at bw;simp only[Ff,cz] at bw;subst bw;simp only[mK,cz] at ah;exact ah
 |some p =>
  obtain⟨j,c⟩:=p;rw[s6] at bw;simp only[Ff] at bw
  split at bw
  ·rename_i s aa;simp only[cz] at bw;subst bw;have ad:=h.tm s
   have ak:yielded ops a.tmps j=match a.eval (.tmp s) with|.bool b=>some b|_=>none:=by
    unfold yielded;rw[aa];simp only[Option.bind_some,Act.eval,Array.getD_eq_getD_getElem?]
    cases a.tmps[s]? with
    |none=>rfl
    |some v=>cases v<;>rfl
   simp only[mK] at ah;simp only[ak]
   split at ah
   ·rename_i t bV;rw[bV] at ad
    cases ad with
    |J ad =>
     generalize a.eval (.tmp s)=u at *
     cases ad;simp only[cz] at ah;subst ah
     cases t<;>cases c<;>simp
   ·rename_i bV;rw[bV] at ad;generalize a.eval (.tmp s)=u at *
    cases ad;simp only[cz] at ah;subst ah
    rfl
   ·cases ah
  ·cases bw
theorem Xt {kb:Nat}{own:List Nat}{dst:Option Nat}{ty:TypeId}{op:Op}{f:FuncId}{args:List bT}(h:ih P kb own dst ty op=some (.call f args)):
  ∃c:Call,op=.call c/\c.callee=.value (.func f)/\c.args.toList.mapM dt=some args:=by
 cases op<;>simp only[ih,vH,s3] at h
 case call c =>
  refine⟨c,rfl,?_⟩;unfold uv at h
  (repeat' split at h)<;>simp_all [dQ,dI]
 all_goals ((repeat' split at h)<;>simp_all [dQ,dI])
theorem ahn {kb:Nat}{own:List Nat}{dst:Option Nat}{ty:TypeId}{op:Op}{f:FuncId}{ct:Nat}{args:List bT}(h:ih P kb own dst ty op=some (.lS ct f args)):
  ∃c:Call,op=.call c/\c.callee=.value (.func f)/\c.args.toList.mapM dt=some args:=by
 cases op<;>simp only[ih,vH,s3] at h
 case call c =>
  refine⟨c,rfl,?_⟩;unfold uv at h
  (repeat' split at h)<;>simp_all [dQ,dI]
  all_goals
   obtain⟨_,D,_,rfl,rfl⟩:=h;exact⟨rfl,D⟩
 all_goals ((repeat' split at h)<;>simp_all [dQ,dI])
theorem aho {kb:Nat}{own:List Nat}{dst:Option Nat}{ty:TypeId}{op:Op}{f:FuncId}{ct:Nat}{args:List bT}(h:ih P kb own dst ty op=some (.qy ct f args)):
  ∃c:Call,op=.call c/\c.callee=.value (.func f)/\c.args.toList.mapM dt=some args:=by
 cases op<;>simp only[ih,vH,s3] at h
 case call c =>
  refine⟨c,rfl,?_⟩;unfold uv at h
  (repeat' split at h)<;>simp_all [dQ,dI]
  all_goals
   obtain⟨_,D,_,rfl,rfl⟩:=h;exact⟨rfl,D⟩
 all_goals ((repeat' split at h)<;>simp_all [dQ,dI])
theorem ahp {kb:Nat}{own:List Nat}{dst:Option Nat}{ty:TypeId}{op:Op}{f:FuncId}{ct:Nat}{args:List bT}(h:ih P kb own dst ty op=some (.pL ct f args)):
  ∃c:Call,op=.call c/\c.callee=.value (.func f)/\c.args.toList.mapM dt=some args:=by
 cases op<;>simp only[ih,vH,s3] at h
 case call c =>
  refine⟨c,rfl,?_⟩;unfold uv at h
  (repeat' split at h)<;>simp_all [dQ,dI]
  all_goals
   obtain⟨_,D,_,rfl,rfl⟩:=h;exact⟨rfl,D⟩
 all_goals ((repeat' split at h)<;>simp_all [dQ,dI])
theorem Xu {kb:Nat}{own:List Nat}{dst:Option Nat}{ty:TypeId}{op:Op}{f:FuncId}{k:Key}{sz:Nat}{args:List bT}(h:ih P kb own dst ty op=some (.na k sz f args)):
  ∃c:Call,op=.call c/\c.callee=.value (.func f)/\c.args.toList.mapM dt=some args:=by
 cases op<;>simp only[ih,vH,s3] at h
 case call c =>
  refine⟨c,rfl,?_⟩;unfold uv at h
  (repeat' split at h)<;>simp_all [dQ,dI]
  obtain⟨_,_,_,_,_,D,_,_,rfl,rfl⟩:=h;exact⟨rfl,D⟩
 all_goals ((repeat' split at h)<;>simp_all [dQ,dI])
theorem ahq {kb:Nat}{own:List Nat}{dst:Option Nat}{ty:TypeId}{op:Op}{f:bT}{args:List bT}(h:ih P kb own dst ty op=some (.iY f args)):
  ∃(c:Call) (x:Operand),op=.call c/\c.callee=.value x/\dt x=some f/\c.args.toList.mapM dt=some args:=by
 cases op<;>simp only[ih,vH,s3] at h
 case call c =>
  refine⟨c,?_⟩;unfold uv at h
  (repeat' split at h)<;>simp_all [dQ,dI]
 all_goals ((repeat' split at h)<;>simp_all [dQ,dI])
theorem ahr {kb:Nat}{own:List Nat}{dst:Option Nat}{ty:TypeId}{op:Op}{neg:Bool}{x:bT}(h:ih P kb own dst ty op=some (.pK neg x)):
  ∃(t e:TypeId) (y y':Operand) (z:TypeId),op=.binOp (if neg then .neq else .eql) t y y' z/\Nc y'=true/\P.underlying t=some (.slice e)/\dt y=some x:=by
 cases op<;>simp only[ih,vH,s3] at h
 case call c =>
  unfold uv at h
  (repeat' split at h)<;>simp_all [dQ,dI]
 case binOp bop t y y' z =>
  (repeat' split at h)<;>simp_all [dQ,dI]
  all_goals
   obtain⟨D,rfl⟩:=h;exact⟨_,_,_,_,⟨rfl,rfl,rfl⟩,by assumption,by assumption,D⟩
 all_goals ((repeat' split at h)<;>simp_all [dQ,dI])
end Go.Mini
namespace Go.Mini
open Go
variable {P:Program} {T:br} {A:Nat->Prop} {ee w:World} {gH B:Lay} {mem:Mem} {n:Nat}
theorem ahs {t e:TypeId}{y y':Operand}{m:O}{u v:Value}{aS:Nat->Prop}{full:Bool}(neg:Bool)(bV:P.underlying t=some (.slice e))(hm:bA w aS B m u)(aN:zk m=some full)(ad:v=.slice none 0 0):
  ∃b:Bool,(full=true->b=false)/\((do eqGuard (if neg then .neq else .eql) t y y' u v;binOp (if neg then .neq else .eql) t u v:Sem Value)).run P w=.ok (.bool (neg != b)) w:=by
 subst ad
 have shape:∃a len cap,u=.slice a len cap/\(full=true->a.isNone=false):=by
  cases m<;>simp only[zk,reduceCtorEq] at aN
  case J d =>
   cases d<;>simp only[zk,cz,reduceCtorEq] at aN
   cases hm with
   |J ae =>
    cases ae with
    |j7=>exact⟨_,_,_,rfl,λh=>by cases aN;cases h⟩
    |X=>exact⟨_,_,_,rfl,λ_=>rfl⟩
  case nil =>
   cases hm with
   |nil=>exact⟨_,_,_,rfl,λh=>by cases aN;cases h⟩
  case ref k g sz off len =>
   cases hm with
   |ref he bw U =>
    obtain⟨a,cap,rfl,D,G,ag⟩:=U;refine⟨_,_,_,rfl,λh=>?_⟩;simp only[cz] at aN;subst aN;simp only[decide_eq_true_eq] at h;rcases ag with ag|⟨b,rfl,_⟩
    ·omega
    ·rfl
 obtain⟨a,len,cap,rfl,ah⟩:=shape;refine⟨a.isNone,ah,?_⟩
 have he:∀d,(Op.equalIn (d+1) t (.slice a len cap) (.slice none 0 0)).run P w=.ok a.isNone w:=λd=>by
  unfold Op.equalIn;simp only[Sem.run_bind,run_underlying bV,Result.andThen_ok]
  cases a<;>rfl
 have heq:(Op.equal t (.slice a len cap) (.slice none 0 0)).run P w=.ok a.isNone w:=he 9999;rw[I8 (by simp) (by simp)]
 cases neg
 ·simp only[kc,if_false,Sem.run_bind,Sem.run_pure,Result.andThen_ok];show (do pure (Value.bool (<-Op.equal t (.slice a len cap) (.slice none 0 0))):Sem Value).run P w=_
  simp[heq]
 ·simp only[if_true,Sem.run_bind,Sem.run_pure,Result.andThen_ok];show (do pure (Value.bool (!(<-Op.equal t (.slice a len cap) (.slice none 0 0)))):Sem Value).run P w=_
  simp[heq]
structure NA (P:Program) (n kb:Nat) (own:List Nat) (ops:Array Oper) (ar:Oper) (i:cZ):Prop where
 dst:i.dst=ar.dst
 guard:Ff ops ar.guard=some i.g
 op:i.op=(ih P kb own ar.dst ar.type ar.op).getD .bad
 lt:ar.dst.all (λd=>decide (d<n))=true
theorem Xv {kb:Nat}{own:List Nat}{ops:Array Oper}{ar:Oper}{i:cZ}(h:xw P n kb own ops ar=some i):NA P n kb own ops ar i:=by
 unfold xw at h
 split at h
 ·rename_i g bw
  split at h
  ·rename_i az
   cases h;exact⟨rfl,bw,rfl,az⟩
  ·cases h
 ·cases h
theorem aht {K:bz->Prop}{i:cZ}{st:bz}(h:fJ T K i st):
  (∃m e,cl st.mem st.tm i.op=some (m,e)/\K ⟨put st.tm i.dst m,hd st.mem e⟩) \/
  (∃f args,i.op=.call f args/\rM T K st i.dst f (args.map (bf st.tm))) \/
  (∃k sz f args es,i.op=.na k sz f args/\T f (args.map (bf st.tm)) st.mem=some (.own sz es)/\K ⟨put st.tm i.dst (.ref k (b7 st.mem k) sz 0 (o es)),bI st.mem k (b7 st.mem k) (es.flatten.map .J)⟩) \/
  (∃f args,i.op=.iY f args/\((∃g en,bf st.tm f=.e5 g en/\rM T K st i.dst g (args.map (bf st.tm)++en))\/(∃g ds,bf st.tm f=.J (.fn g ds)/\rM T K st i.dst g (args.map (bf st.tm)++ds.map .J)))) \/
  (∃neg x full,i.op=.pK neg x/\zk (bf st.tm x)=some full/\∀b:Bool,(full=true->b=false)->K ⟨put st.tm i.dst (.J (.bool (neg != b))),st.mem⟩):=by
 obtain⟨dst,g,op⟩:=i;unfold fJ at h
 split at h
 ·rename_i f args kQ;exact .inr (.inl ⟨f,args,kQ,h⟩)
 ·rename_i k sz f args kQ
  split at h
  ·rename_i dZ es he
   split at h
   ·rename_i aa;subst aa;exact .inr (.inr (.inl ⟨k,_,f,args,es,kQ,he,h⟩))
   ·cases h
  ·cases h
 ·rename_i f args kQ;refine .inr (.inr (.inr (.inl ⟨f,args,kQ,?_⟩)))
  split at h
  ·rename_i g en aN;exact .inl ⟨g,en,aN,h⟩
  ·rename_i g ds aN;exact .inr ⟨g,ds,aN,h⟩
  ·cases h
 ·rename_i neg x kQ
  split at h
  ·rename_i full aN;exact .inr (.inr (.inr (.inr ⟨neg,x,full,kQ,aN,h⟩)))
  ·cases h
 ·split at h
  ·rename_i m e he;exact .inl ⟨m,e,he,h⟩
  ·cases h
theorem getD_some {α:Type}{x:Option α}{b c:α}(h:c=x.getD b)(ah:c≠b):x=some c:=by
 cases x with
 |none=>exact absurd h ah
 |some y=>simp at h;rw[h]
theorem Xw (cG:oU P T){K:bz->Prop}{a:Act}{st:bz}{ar:Oper}{aT:Exit->Act->World->Prop}{f:FuncId}{args:List O}{vs:List Value}(h:gT n A ee gH a st w B)(az:ar.dst.all (λd=>decide (d<n))=true)
  (ad:db w (ca A B) B args vs) (R:rM T K st ar.dst f args) (kT:Real P f->(execOp a.eval ar).run P w=.ok (.enter f vs.toArray) w) :
  ar.wp P a w (λil aI=>∃dy bB,K dy/\gT n A ee gH il dy aI bB) aT:=by
 unfold rM at R;unfold Oper.wp
 cases hg:T f args st.mem with
 |none=>rw[hg] at R;exact R.elim
 |some np =>
  obtain⟨kx,h4⟩:=cG f args st.mem np hg;have E:=h4 A w B vs h.ok.dC ad;rw[hg] at R;rw[kT kx]
  cases np with
  |same r =>
   refine Calls.mono E λe aI he=>?_;obtain⟨v,rfl,gx,ae⟩:=he;exact⟨_,B,R,h.put (.still h.ok.dC gx) (.J ae) az⟩
  |own sz es =>
   refine Calls.mono E λe aI he=>?_;obtain⟨v,rfl,gx,ae⟩:=he;refine⟨_,B,R,h.put (.still h.ok.dC gx) (.J (ae.den λb ah=>?_)) az⟩;rcases ah with ah|ah
   ·exact h.ok.dC.uo ah
   ·exact h.ok.dC.lt b ah
  |vF r k =>
   refine Calls.mono E λe aI he=>?_;obtain⟨v,bB,rfl,c1,lk⟩:=he;exact⟨_,bB,R,h.put c1 lk az⟩
  |rel cD =>
   refine Calls.mono E λe aI he=>?_;obtain⟨v,r,mem',bB,rfl,aa,ae,dk⟩:=he;exact⟨_,bB,R r mem' dk,h.put aa ae az⟩
  |hO r k g i c =>
   refine Calls.mono E λe aI he=>?_;obtain⟨v,bB,rfl,aa,ae⟩:=he;exact⟨_,bB,R,h.put aa ae az⟩
theorem ahu {aS:Nat->Prop}{m:O}{u:Value}{g:FuncId}{en:List O}(hm:bA w aS B m u)(h:m=.e5 g en\/∃ds,m=.J (.fn g ds)/\en=ds.map .J):
  ∃cs:List Value,u=.func (.func g) #[] cs.toArray/\db w aS B en cs:=by
 rcases h with rfl|⟨ds,rfl,rfl⟩
 ·cases hm with
  |e5 ax ae=>exact⟨_,rfl,ax,ae⟩
 ·cases hm with
  |J ae =>
   cases ae with
   |fn ax ae=>exact⟨_,rfl,db.J ax ae⟩
theorem ahv (cG:oU P T){K:bz->Prop}{kb:Nat}{own:List Nat}{ops:Array Oper}{a:Act}{st:bz}{ar:Oper}{i:cZ}{aT:Exit->Act->World->Prop}(h:gT n A ee gH a st w B)(Q:NA P n kb own ops ar i)
  (R:fJ T K i st):ar.wp P a w (λil aI=>∃dy bB,K dy/\gT n A ee gH il dy aI bB) aT:=by
 have kQ:=Q.op;rcases aht R with ⟨m,e,aa,hV⟩|⟨f,args,he,hV⟩|⟨k,sz,f,args,es,he,hg,hV⟩|⟨f,args,he,hV⟩|⟨neg,x,full,he,aN,hV⟩
 ·have aW:ih P kb own ar.dst ar.type ar.op=some i.op:=getD_some kQ (by
   intro ah;rw[ah] at aa
   cases aa)
  obtain⟨B7,v,aI,bB,kT,ky,c1,ad⟩:=Xn h.ok.dC h.qM aW aa;unfold Oper.wp;rw[kT];rw[Q.dst] at hV;have Fv:=h.put c1 ad Q.lt;rcases ky with rfl|⟨rfl,rfl⟩
  ·exact⟨_,bB,hV,Fv⟩
  ·exact⟨_,bB,hV,Fv⟩
 ·have aW:ih P kb own ar.dst ar.type ar.op=some i.op:=getD_some kQ (by rw[he];simp);rw[he] at aW;obtain⟨c,E,kz,lW⟩:=Xt aW;rw[Q.dst] at hV;refine Xw cG h Q.lt (uF h.qM lW) hV λkx=>?_;obtain⟨dst,op,type,pos,after,guard⟩:=ar;simp only at E;subst E;obtain⟨callee,vT,Jr⟩:=c;simp only at kz;subst kz;simp only[execOp,resolve,Deferred.ofValue,Act.eval,invoke,Sem.run_bind,Sem.run_pure,Result.andThen_ok,Jq kx];rw[xD vT];simp
 ·have aW:ih P kb own ar.dst ar.type ar.op=some i.op:=getD_some kQ (by rw[he];simp);rw[he] at aW;obtain⟨c,E,kz,lW⟩:=Xu aW;rw[Q.dst] at hV;obtain⟨kx,h4⟩:=cG f _ st.mem _ hg;have ja:=h4 A w B _ h.ok.dC (uF h.qM lW);have az:=Q.lt;obtain⟨dst,op,type,pos,after,guard⟩:=ar;simp only at E;subst E;obtain⟨callee,vT,Jr⟩:=c;simp only at kz lW;subst kz
  have kT:(execOp a.eval ⟨dst,.call ⟨.value (.func f),vT,Jr⟩,type,pos,after,guard⟩).run P w=.ok (.enter f (vT.toList.map a.eval).toArray) w:=by
   simp only[execOp,resolve,Deferred.ofValue,Act.eval,invoke,Sem.run_bind,Sem.run_pure,Result.andThen_ok,Jq kx];rw[xD vT];simp
  unfold Oper.wp;rw[kT];refine Calls.mono ja λe aI nn=>?_;obtain⟨v,rfl,gx,ae⟩:=nn;obtain⟨bB,c1,ad⟩:=Xs k h.ok.dC gx ae;exact⟨_,bB,hV,h.put c1 ad az⟩
 ·have aW:ih P kb own ar.dst ar.type ar.op=some i.op:=getD_some kQ (by rw[he];simp);rw[he] at aW;obtain⟨c,x,E,kz,I,lW⟩:=ahq aW;rw[Q.dst] at hV;have ahw:=h.qM _ _ I
  have main:∀g en,(bf st.tm f=.e5 g en\/∃ds,bf st.tm f=.J (.fn g ds)/\en=ds.map .J)->rM T K st ar.dst g (args.map (bf st.tm)++en)->ar.wp P a w (λil aI=>∃dy bB,K dy/\gT n A ee gH il dy aI bB) aT:=by
   intro g en bw hV;obtain⟨cs,hu,cK⟩:=ahu ahw bw;refine Xw cG h Q.lt ((uF h.qM lW).append cK) hV λkx=>?_;obtain⟨dst,op,type,pos,after,guard⟩:=ar;simp only at E;subst E;obtain⟨callee,vT,Jr⟩:=c;simp only at kz;subst kz;simp only[execOp,resolve,hu,Deferred.ofValue,invoke,Sem.run_bind,Sem.run_pure,Result.andThen_ok,Jq kx];rw[xD vT];simp
  rcases hV with ⟨g,en,bw,hV⟩|⟨g,ds,bw,hV⟩
  ·exact main g en (.inl bw) hV
  ·exact main g _ (.inr ⟨ds,bw,rfl⟩) hV
 ·have aW:ih P kb own ar.dst ar.type ar.op=some i.op:=getD_some kQ (by rw[he];simp);rw[he] at aW;obtain⟨t,e,y,y',z,E,aL,bV,ak⟩:=ahr aW;rw[Q.dst] at hV
  have NB:a.eval y' = .slice none 0 0:=by
   unfold Nc at aL
   split at aL
   ·rfl
   ·cases aL
  obtain⟨b,ah,kT⟩:=ahs (y:=y) (y':=y') neg bV (h.qM _ _ ak) aN NB;obtain⟨dst,op,type,pos,after,guard⟩:=ar;simp only at E;subst E;unfold Oper.wp
  have:(execOp a.eval ⟨dst,.binOp (if neg then .neq else .eql) t y y' z,type,pos,after,guard⟩).run P w=.ok (.value (.bool (neg != b))) w:=by
   simp only[execOp];rw[Sem.run_bind,kT]
   rfl
  rw[this];exact⟨_,B,hV b ah,h.put (.refl h.ok.dC) (.J .bool) Q.lt⟩
end Go.Mini
namespace Go.Mini
open Go
variable {T:br}
theorem e7 {tm tm':Nat->O}{x:bT}(h:∀s∈eM x,tm s=tm' s):bf tm x=bf tm' x:=by
 cases x with
 |t s=>exact h s (by simp[eM])
 |c m=>rfl
theorem map_congr {tm tm':Nat->O}{l:List bT}(h:∀s∈l.flatMap eM,tm s=tm' s):l.map (bf tm)=l.map (bf tm') :=
 oV λx I=>e7 λs aa=>h s (zC.2 ⟨x,I,aa⟩)
theorem Js {tm tm':Nat->O}{l:List bT}(h:∀s∈l.flatMap eM,tm s=tm' s):(l.map λx=>shut (bf tm x))=l.map λx=>shut (bf tm' x) :=
 oV λx I=>by rw[e7 λs aa=>h s (zC.2 ⟨x,I,aa⟩)]
theorem zD {tm tm':Nat->O}{x:Option bT}(h:∀s∈uw x,tm s=tm' s):x.map (bf tm)=x.map (bf tm'):=by
 cases x with
 |none=>rfl
 |some x =>
  cases x with
  |t s=>simp[bf,h s (by simp[uw])]
  |c m=>rfl
theorem NC {tm tm':Nat->O}:∀{ps:List (Nat×Nat×bT)} (cs:List O),(∀s∈ps.flatMap (λp=>eM p.2.2),tm s=tm' s)->iZ (bf tm) cs ps=iZ (bf tm') cs ps
 | [],_,_=>rfl
 |(ar,s,x)::ps,cs,h=>by
  have D:bf tm x=bf tm' x:=e7 λt bV=>h t (zC.2 ⟨(ar,s,x),by simp,bV⟩);simp only[iZ,D]
  split
  ·exact NC _ λt bV=>h t (by simp only[List.flatMap_cons,iK];exact .inr bV)
  ·rfl
theorem ahx {mem:Mem}{tm tm':Nat->O}{op:iF}(h:∀s∈pQ op,tm s=tm' s):cl mem tm op=cl mem tm' op:=by
 cases op<;>simp only[pQ,iK] at h
 case ck x=>simp only[cl,jl,e7 h]
 case pick c a b=>simp only[cl,jl,e7 (λs aa=>h s (.inl (.inl aa))),e7 (λs aa=>h s (.inl (.inr aa))),e7 (λs aa=>h s (.inr aa))]
 case alloc=>rfl
 case box k x=>simp only[cl,e7 h]
 case build z ps=>simp only[cl,jl,NC _ h]
 case fz k ar z sz len ps=>cases ar<;>simp only[cl,jl,NC _ h]
 case load n dE x=>simp only[cl,e7 h]
 case store n x v=>simp only[cl,e7 (λs aa=>h s (.inl aa)),e7 (λs aa=>h s (.inr aa))]
 case bin ar x y=>simp only[cl,jl,e7 (λs aa=>h s (.inl aa)),e7 (λs aa=>h s (.inr aa))]
 case beq ar x y=>simp only[cl,jl,e7 (λs aa=>h s (.inl aa)),e7 (λs aa=>h s (.inr aa))]
 case eqs ar l x y=>simp only[cl,jl,e7 (λs aa=>h s (.inl aa)),e7 (λs aa=>h s (.inr aa))]
 case pK=>rfl
 case un ar x=>simp only[cl,jl,e7 h]
 case conv k x=>simp only[cl,jl,e7 h]
 case zf x=>simp only[cl,jl,e7 h]
 case mb k z b x y=>simp only[cl,e7 (λs aa=>h s (.inl aa)),e7 (λs aa=>h s (.inr aa))]
 case c3 ar x=>simp only[cl,jl,e7 h]
 case zg ar n dE x=>simp only[cl,jl,e7 h]
 case jO s x i=>simp only[cl,jl,e7 (λs aa=>h s (.inl aa)),e7 (λs aa=>h s (.inr aa))]
 case zh n s x i=>simp only[cl,jl,e7 (λs aa=>h s (.inl aa)),e7 (λs aa=>h s (.inr aa))]
 case idxs x i=>simp only[cl,jl,e7 (λs aa=>h s (.inl aa)),e7 (λs aa=>h s (.inr aa))]
 case m9 s x a b c =>
  have D:=e7 (λs aa=>h s (.inl (.inl (.inl aa))));have G:=zD (λs aa=>h s (.inl (.inl (.inr aa))));have ag:=zD (λs aa=>h s (.inl (.inr aa)));have aR:=zD (λs aa=>h s (.inr aa))
  cases b<;>cases c<;>simp only[rV,Xx,cz] at ag aR<;>simp only[cl,jl,rV,Xx,D,G,ag,aR]
 case rI n s x a b c =>
  have D:=e7 (λs aa=>h s (.inl (.inl (.inl aa))));have G:=zD (λs aa=>h s (.inl (.inl (.inr aa))));have ag:=zD (λs aa=>h s (.inl (.inr aa)))
  cases c<;>simp only[cl,jl,D,G,ag]
 case zi x a b=>simp only[cl,jl,e7 (λs aa=>h s (.inl (.inl aa))),zD (λs aa=>h s (.inl (.inr aa))),zD (λs aa=>h s (.inr aa))]
 case ext i x=>simp only[cl,jl,e7 h]
 case len x=>simp only[cl,jl,e7 h]
 case lens x=>simp only[cl,jl,e7 h]
 case app k z b s x=>simp only[cl,e7 (λs aa=>h s (.inl aa)),e7 (λs aa=>h s (.inr aa))]
 case rJ s d x=>simp only[cl,e7 (λs aa=>h s (.inl aa)),e7 (λs aa=>h s (.inr aa))]
 case pM z x=>simp only[cl,e7 h]
 case jP ar x y=>simp only[cl,jl,e7 (λs aa=>h s (.inl aa)),e7 (λs aa=>h s (.inr aa))]
 case call=>rfl
 case na=>rfl
 case iY=>rfl
 case lS=>rfl
 case qy=>rfl
 case pL=>rfl
 case qz f l=>simp only[cl,jl,map_congr h]
 case bad=>rfl
theorem Xy {mem:Mem}{tm tm':Nat->O}{op:iF}(h:∀s∈pQ op,tm s=tm' s):gM T mem tm op=gM T mem tm' op:=by
 cases op
 case call f l =>
  have:=Js (l:=l) (tm:=tm) (tm':=tm') (by simpa [pQ] using h);simp only[gM,this]
 case na k sz f l =>
  have:=Js (l:=l) (tm:=tm) (tm':=tm') (by simpa [pQ] using h);simp only[gM,this]
 case iY=>rfl
 case pK=>rfl
 case lS ct f l =>
  have:=map_congr (l:=l) (tm:=tm) (tm':=tm') (by simpa [pQ] using h);simp only[gM,this]
 case qy j f l =>
  have D:=map_congr (l:=l) (tm:=tm) (tm':=tm') (by simpa [pQ] using h);have G:=Js (l:=l) (tm:=tm) (tm':=tm') (by simpa [pQ] using h);simp only[gM,D,G]
 case pL j f l =>
  have D:=map_congr (l:=l) (tm:=tm) (tm':=tm') (by simpa [pQ] using h);have G:=Js (l:=l) (tm:=tm) (tm':=tm') (by simpa [pQ] using h);simp only[gM,D,G]
 all_goals exact ahx (mem:=mem) h
theorem Xz {tm tm':Nat->O}{op:iF}(h:∀s∈pQ op,tm s=tm' s):dq tm op=dq tm' op:=by
 cases op<;>simp only[pQ,iK] at h<;>try rfl
 case fz k ar z sz len ps=>cases ar<;>rfl
 case load n dE x=>simp only[dq,e7 h]
 case rI n s x a b c=>simp only[dq,e7 (λs aa=>h s (.inl (.inl (.inl aa))))]
 case store n x v=>simp only[dq,e7 (λs aa=>h s (.inl aa))]
 case app k z b s x=>simp only[dq,e7 (λs aa=>h s (.inl aa)),e7 (λs aa=>h s (.inr aa))]
 case rJ s d x=>simp only[dq,e7 (λs aa=>h s (.inl aa)),e7 (λs aa=>h s (.inr aa))]
 case lS ct f l=>simp only[dq,map_congr h]
 case qy j f l=>simp only[dq,map_congr h]
 case pL j f l=>simp only[dq,map_congr h]
 case pM z x=>simp only[dq,e7 h]
theorem ahy {n:Nat}{m:O}{aT:Key->Prop}(h:∀x∈BG n m,aT x.key):∀j∈keyOf m,aT j:=by
 cases m<;>simp_all [BG,keyOf,lh.key]
theorem XA {mem mem':Mem}{sz:Nat}{m:O}(h:∀k∈keyOf m,mem k=mem' k):nW mem sz m=nW mem' sz m:=by
 cases m<;>try rfl
 case J d=>cases d<;>rfl
 simp only[nW];rw[h _ (by simp[keyOf])]
theorem ahz {mem mem':Mem}{k:Key}{z:List O}{b:Nat}{m:O}{row:Option (Nat×List O)}(R:mem k=mem' k)(h:∀j∈keyOf m,mem j=mem' j):oK mem k z b m row=oK mem' k z b m row:=by
 cases m<;>cases row<;>try rfl
 ·simp only[oK,b7,R]
 ·simp only[oK];rw[h _ (by simp[keyOf])]
theorem ahA {mem mem':Mem}{sz:Nat}{m:O}{row:Option (Nat×List O)}(h:∀j∈keyOf m,mem j=mem' j):sW mem sz m row=sW mem' sz m row:=by
 cases m<;>cases row<;>try rfl
 simp only[sW];rw[h _ (by simp[keyOf])]
theorem ahB {mem mem':Mem}{z:List O}{m:O}(h:∀j∈keyOf m,mem j=mem' j):ur mem z m=ur mem' z m:=by
 cases m<;>try rfl
 simp only[ur];rw[h _ (by simp[keyOf])]
theorem ahC {mem mem':Mem}{n:Nat}{dE:Bool}{m:O}(h:∀j∈keyOf m,mem j=mem' j):nU mem n dE m=nU mem' n dE m:=by
 cases m<;>try rfl
 case J d=>cases d<;>rfl
 simp only[nU];rw[h _ (by simp[keyOf])]
theorem ahD {mem mem':Mem}{n:Nat}{m:O}{v:List O}(h:∀j∈keyOf m,mem j=mem' j):uq mem n m v=uq mem' n m v:=by
 cases m<;>try rfl
 simp only[uq];rw[h _ (by simp[keyOf])]
theorem ahE {mem mem':Mem}{n s a b:Nat}{m:O}(h:∀j∈keyOf m,mem j=mem' j):xv mem n s a b m=xv mem' n s a b m:=by
 cases m<;>try rfl
 simp only[xv];rw[h _ (by simp[keyOf])]
theorem ahF {mem mem':Mem}{tm:Nat->O}{op:iF}(h:∀x∈dq tm op,mem x.key=mem' x.key):cl mem tm op=cl mem' tm op:=by
 have B7:∀k,mem k=mem' k->b7 mem k=b7 mem' k:=λk R=>by simp only[b7,R]
 cases op<;>try rfl
 case alloc k z=>simp only[cl,B7 k (h (.gL k) (by simp[dq]))]
 case box k x=>simp only[cl,B7 k (h (.gL k) (by simp[dq]))]
 case fz k ar z sz len ps =>
  cases ar
  ·rfl
  ·simp only[cl,B7 k (h (.gL k) (by simp[dq]))]
 case mb k z b x y=>simp only[cl,B7 k (h (.gL k) (by simp[dq]))]
 case load n dE x =>
  simp only[cl];rw[ahC (ahy (aT:=λj=>mem j=mem' j) h)]
 case rI n s x a b c =>
  cases c
  ·simp only[cl]
   congr 2
   funext l
   congr 1
   funext a6
   exact ahE λj ay=>h (.gL j) (by simp[dq,ay])
  ·rfl
 case store n x v =>
  simp only[cl];exact ahD λj ay=>h (.gL j) (by simp[dq,ay])
 case app k z b s x =>
  have cu:∀j,j=k\/j∈keyOf (bf tm s)\/j∈keyOf (bf tm x)->mem j=mem' j:=λj ay=>h (.gL j) (by simpa [dq] using ay);simp only[cl,XA (sz:=o z) (λj ay=>cu j (.inr (.inr ay)))];exact ahz (cu k (.inl rfl)) λj ay=>cu j (.inr (.inl ay))
 case rJ s d x =>
  have cu:∀j,j∈keyOf (bf tm d)\/j∈keyOf (bf tm x)->mem j=mem' j:=λj ay=>h (.gL j) (by simpa [dq] using ay);simp only[cl,XA (sz:=s) (λj ay=>cu j (.inr ay))];exact ahA λj ay=>cu j (.inl ay)
 case pM z x =>
  simp only[cl];exact ahB λj ay=>h (.gL j) (by simp[dq,ay])
theorem XB {mem mem':Mem}{tm:Nat->O}{op:iF}(E:∀ct f l,op ≠ .lS ct f l)(h:∀x∈dq tm op,mem x.key=mem' x.key):gM T mem tm op=gM T mem' tm op:=by
 cases op
 case call=>rfl
 case na k sz f l =>
  have:b7 mem k=b7 mem' k:=by
   have:=h (.gL k) (by simp[dq]);simp only[lh.key] at this;simp only[b7,this]
  simp only[gM,this]
 case lS ct f l=>exact absurd rfl (E ct f l)
 case qy j f l =>
  simp only[gM]
  cases hm:(l.map (bf tm))[j]? with
  |none=>rfl
  |some m =>
   cases m<;>try rfl
   have:=h (.gL _) (by simp only[dq,hm,sX];exact gP);simp only[lh.key] at this;simp only[E9,this]
 case pL j f l =>
  simp only[gM]
  cases hm:(l.map (bf tm))[j]? with
  |none=>rfl
  |some m =>
   cases m<;>try rfl
   have:=h (.gL _) (by simp only[dq,hm,sX];exact gP);simp only[lh.key] at this;simp only[Fa,this]
 case iY=>rfl
 case pK=>rfl
 all_goals exact ahF (mem:=mem) (mem':=mem') (tm:=tm) h
theorem Jt {x:Option O}{m:O}{e:Option (Key×Nat×List O)}(h:hP x=some (m,e)):e=none:=(Xi h).2
theorem ahG {mem:Mem}{tm:Nat->O}{op:iF}{m:O}{e:Option (Key×Nat×List O)}(h:cl mem tm op=some (m,e)):e=none\/(ig op=true/\∃k g cs,e=some (k,g,cs) /\ .gL k∈dq tm op):=by
 cases op<;>try (first|exact .inl (Jt h)|exact .inl (Jt (x:=some _) h))
 case alloc k z =>
  simp only[cl,cz,eU] at h;exact .inr ⟨rfl,_,_,_,h.2.symm,by simp[dq]⟩
 case box k x =>
  simp only[cl] at h
  split at h<;>simp only[cz,eU,reduceCtorEq] at h
  exact .inr ⟨rfl,_,_,_,h.2.symm,by simp[dq]⟩
 case fz k ar z sz len ps =>
  cases ar
  ·exact .inl (Jt h)
  ·simp only[cl,BE] at h
   (repeat' split at h)<;>simp only[cz,eU,reduceCtorEq] at h
   exact .inr ⟨rfl,_,_,_,h.2.symm,by simp[dq]⟩
 case mb k z b x y =>
  obtain⟨_,_,_,_,h⟩:=Xj h;simp only[BF] at h
  split at h<;>simp only[cz,eU,reduceCtorEq] at h
  exact .inr ⟨rfl,_,_,_,h.2.symm,by simp[dq]⟩
 case rI n s x a b c =>
  cases c
  ·exact .inl (Jt h)
  ·cases h
 case store n x v =>
  simp only[cl] at h
  cases I:bf tm x<;>rw[I] at h<;>simp only[uq,reduceCtorEq] at h
  simp only[E6] at h
  (repeat' split at h)<;>simp only[cz,eU,reduceCtorEq] at h
  exact .inr ⟨rfl,_,_,_,h.2.symm,by simp[dq,I,keyOf]⟩
 case app k z b s x =>
  simp only[cl] at h
  cases U:nW mem (o z) (bf tm x)<;>cases aa:bf tm s<;>rw[U,aa] at h<;>simp only[oK,reduceCtorEq] at h
  ·split at h<;>simp only[cz,eU,reduceCtorEq] at h
   exact .inr ⟨rfl,_,_,_,h.2.symm,by simp[dq]⟩
  ·simp only[pO] at h
   (repeat' split at h)<;>simp only[cz,eU,reduceCtorEq] at h
   exact .inr ⟨rfl,_,_,_,h.2.symm,by simp[dq,aa,keyOf]⟩
 case rJ s d x =>
  simp only[cl] at h
  cases U:nW mem s (bf tm x)<;>cases aa:bf tm d<;>rw[U,aa] at h<;>simp only[sW,reduceCtorEq] at h
  simp only[I4] at h
  (repeat' split at h)<;>simp only[cz,eU,reduceCtorEq] at h
  exact .inr ⟨rfl,_,_,_,h.2.symm,by simp[dq,aa,keyOf]⟩
 case pM z x =>
  simp only[cl] at h
  cases aa:bf tm x<;>rw[aa] at h<;>simp only[ur,reduceCtorEq] at h
  simp only[I5] at h
  (repeat' split at h)<;>simp only[cz,eU,reduceCtorEq] at h
  exact .inr ⟨rfl,_,_,_,h.2.symm,by simp[dq,aa,keyOf]⟩
 all_goals cases h
theorem XC {mem:Mem}{j:Nat}{f:FuncId}{ms:List O}{x:Option O}{m:O}{e:Option (Key×Nat×List O)}(h:E9 T mem j f ms x=some (m,e)):
  ∃k g sz off len cs d r,x=some (.ref k g sz off len)/\mem k=some (g,cs)/\E8 sz off len cs=some d/\I6 (T f (ms.set j (.J d)) emp)=some r/\m=.J r/\e=some (k,b7 mem k,[]):=by
 unfold E9 at h
 split at h
 ·rename_i k g sz off len;unfold M8 at h
  split at h
  ·rename_i c4 cs hm
   split at h
   ·rename_i bw;subst bw
    split at h
    ·rename_i d ae
     split at h
     ·rename_i r U;simp only[cz,eU] at h;exact⟨k,_,sz,off,len,cs,d,r,rfl,hm,ae,U,h.1.symm,by rw[<-h.2];simp[b7,hm]⟩
     ·cases h
    ·cases h
   ·cases h
  ·cases h
 ·cases h
theorem XD {mem:Mem}{j:Nat}{f:FuncId}{ms:List O}{x:Option O}{m:O}{e:Option (Key×Nat×List O)}(h:Fa T mem j f ms x=some (m,e)):
  ∃k g sz off len c4 cs r,x=some (.ref k g sz off len)/\mem k=some (c4,cs)/\nb cs=true/\T f (ms.set j (.ref k g sz off len)) (bI emp k c4 cs)=some (.vF r k)/\m=.J r/\e=some (k,b7 mem k,[]):=by
 unfold Fa at h
 split at h
 ·rename_i k g sz off len;unfold M9 at h
  split at h
  ·rename_i c4 cs hm
   split at h
   ·rename_i ae
    split at h
    ·rename_i r k' U
     split at h
     ·rename_i R;subst R;simp only[cz,eU] at h;exact⟨_,g,sz,off,len,c4,cs,r,rfl,hm,ae,U,h.1.symm,by rw[<-h.2];simp[b7,hm]⟩
     ·cases h
    ·cases h
   ·cases h
  ·cases h
 ·cases h
theorem XE {ct:Nat}{mem:Mem}{ms:List O}{x:Option gg}{m:O}{e:Option (Key×Nat×List O)}(h:BH ct mem ms x=some (m,e)):
  ∃r k g i c cs,x=some (.hO r k g i c)/\mem k=some (g,cs)/\m=.J r/\e=some (k,g,cs.set i c)/\E7 ct ms=[.wr k i]:=by
 unfold BH at h
 split at h
 ·rename_i k g off rest r k' c4 i c
  split at h
  ·rename_i Ju cs hm
   split at h
   ·rename_i E;obtain⟨rfl,rfl,rfl⟩:=E;simp only[cz,eU] at h;exact⟨r,_,_,_,c,cs,rfl,hm,h.1.symm,h.2.symm,rfl⟩
   ·cases h
  ·cases h
 ·cases h
theorem ND {mem:Mem}{tm:Nat->O}{op:iF}{m:O}{e:Option (Key×Nat×List O)}(h:gM T mem tm op=some (m,e)):e=none\/(ig op=true/\∃k g cs,e=some (k,g,cs)/\(.gL k∈dq tm op\/∃i c qN,dq tm op=[.wr k i]/\mem k=some (g,qN)/\cs=qN.set i c)):=by
 have pl:cl mem tm op=some (m,e)->e=none\/(ig op=true/\∃k g cs,e=some (k,g,cs)/\(.gL k∈dq tm op\/∃i c qN,dq tm op=[.wr k i]/\mem k=some (g,qN)/\cs=qN.set i c)):=λh=>by
  rcases ahG h with h|⟨D,k,g,cs,G,ag⟩
  ·exact .inl h
  ·exact .inr ⟨D,k,g,cs,G,.inl ag⟩
 cases op
 case call f l =>
  simp only[gM] at h
  split at h<;>simp only[cz,eU,reduceCtorEq] at h
  ·exact .inl h.2.symm
  ·exact .inl h.2.symm
 case na k sz f l =>
  simp only[gM] at h
  (repeat' split at h)<;>simp only[cz,eU,reduceCtorEq] at h
  exact .inr ⟨rfl,_,_,_,h.2.symm,.inl (by simp[dq])⟩
 case iY=>cases h
 case pK=>cases h
 case lS ct f l =>
  obtain⟨r,k,g,i,c,cs,-,hm,-,he,aN⟩:=XE h;exact .inr ⟨rfl,k,g,_,he,.inr ⟨i,c,cs,aN,hm,rfl⟩⟩
 case qy j f l =>
  simp only[gM] at h;obtain⟨k,g,sz,off,len,cs,d,r,I,hm,-,-,-,he⟩:=XC h;exact .inr ⟨rfl,k,_,_,he,.inl (by simp only[dq,I,sX];exact gP)⟩
 case pL j f l =>
  simp only[gM] at h;obtain⟨k,g,sz,off,len,c4,cs,r,I,hm,-,-,-,he⟩:=XD h;exact .inr ⟨rfl,k,_,_,he,.inl (by simp only[dq,I,sX];exact gP)⟩
 all_goals exact pl h
theorem ahH {tm:Nat->O}{op:iF}{b:lh}(ah:b∈dq tm op):(∃k,b=.gL k)\/(∃n dE x k g off,op=.load n dE x/\bf tm x=.ptr k g off/\b=.rd k off (off+n))\/∃ct f l,op=.lS ct f l:=by
 cases op
 case load n dE x =>
  simp only[dq] at ah
  cases I:bf tm x<;>rw[I] at ah<;>simp[BG] at ah
  ·exact .inl ⟨_,ah⟩
  ·exact .inr (.inl ⟨_,_,_,_,_,_,rfl,I,ah⟩)
 case lS ct f l=>exact .inr (.inr ⟨_,_,_,rfl⟩)
 case qy j f l =>
  simp only[dq] at ah
  cases hm:(l.map (bf tm))[j]? with
  |none=>rw[hm] at ah;simp[sX] at ah
  |some m =>
   rw[hm] at ah
   cases m<;>simp[sX] at ah;exact .inl ⟨_,ah⟩
 case pL j f l =>
  simp only[dq] at ah
  cases hm:(l.map (bf tm))[j]? with
  |none=>rw[hm] at ah;simp[sX] at ah
  |some m =>
   rw[hm] at ah
   cases m<;>simp[sX] at ah;exact .inl ⟨_,ah⟩
 case fz k ar z sz len ps =>
  cases ar<;>simp[dq] at ah;exact .inl ⟨_,ah⟩
 all_goals
  simp[dq] at ah
  try first
   |exact .inl ⟨_,ah⟩
   |(rcases ah with ⟨k,_,h⟩|⟨k,_,h⟩<;>exact .inl ⟨k,h.symm⟩)
   |(rcases ah with h|⟨k,_,h⟩|⟨k,_,h⟩<;>first|exact .inl ⟨_,h⟩|exact .inl ⟨_,h.symm⟩)
   |(obtain⟨k,_,h⟩:=ah;exact .inl ⟨k,h.symm⟩)
theorem ahI {cs:List O}{i off n:Nat}{c:O}(h:i<off\/off+n<=i):cut (cs.set i c) off n=cut cs off n:=by
 unfold cut;rw[kA]
 split
 ·congr 1
  rcases h with h|h
  ·rw[qO h]
  ·by_cases Q:i<off
   ·rw[qO Q]
   ·rw[List.drop_set,aq Q,List.take_set_of_le (by omega)]
 ·rfl
theorem ahJ {mem:Mem}{k g i:Nat}{c:O}{cs:List O}{n:Nat}{dE:Bool}{k' c4 off:Nat}(hm:mem k=some (g,cs))(h:k'≠k\/i<off\/off+n<=i):
  nU (bI mem k g (cs.set i c)) n dE (.ptr k' c4 off)=nU mem n dE (.ptr k' c4 off):=by
 by_cases R:k'=k
 ·subst R;have h:=h.resolve_left (λh=>h rfl);simp only[nU,bI,if_true,hm,ahI h]
 ·simp only[nU,bI,R,if_false]
theorem XF {mem:Mem}{tm:Nat->O}{x y:iF}{m:O}{e:Option (Key×Nat×List O)}(ahK:gM T mem tm x=some (m,e))(aM:oM (ig x,dq tm x) (ig y,dq tm y)=true):gM T (hd mem e) tm y=gM T mem tm y:=by
 rcases ND ahK with rfl|⟨hw,k,g,cs,rfl,R⟩
 ·rfl
 ·have eE:∀a∈dq tm x,∀b∈dq tm y,oL a b=true:=by
   unfold oM at aM
   simpa [hw] using aM
  have ahL:∀ct f l,y=.lS ct f l->dq tm y=[]:=by
   rintro ct f l rfl
   cases ah:dq tm (.lS ct f l) with
   |nil=>rfl
   |cons b r =>
    exfalso
    have g6:∃k' bt,b=.wr k' bt:=by
     simp only[dq] at ah;unfold E7 at ah
     split at ah
     ·cases ah;exact⟨_,_,rfl⟩
     ·cases ah
    obtain⟨k',bt,rfl⟩:=g6;have hm:lh.wr k' bt∈dq tm (.lS ct f l):=by rw[ah];exact gP
    rcases R with R|⟨i,c,qN,aN,_,_⟩
    ·have:=eE _ R _ hm;simp[oL] at this
    ·have:=eE (.wr k i) (by rw[aN];exact gP) _ hm;simp[oL] at this
  by_cases ak:∃ct f l,y=.lS ct f l
  ·obtain⟨ct,f,l,rfl⟩:=ak;have au:=ahL _ _ _ rfl;simp only[dq] at au
   have a8:∀mem' iu,BH ct mem' (l.map (bf tm)) iu=none:=by
    intro mem' iu;unfold BH
    split
    ·rename_i heq;rw[heq] at au;simp[E7] at au
    ·rfl
   simp only[gM,a8]
  ·have E:∀ct f l,y ≠ .lS ct f l:=λct f l h=>ak ⟨ct,f,l,h⟩;rcases R with R|⟨i,c,qN,aN,hm,rfl⟩
   ·refine (XB E λb ah=>?_).symm;have D:=eE _ R b ah
    have:b.key≠k:=by
     rintro rfl
     cases b<;>simp[oL,lh.key] at D
    simp[hd,bI,this]
   ·have D:=eE (.wr k i) (by rw[aN];exact gP)
    by_cases ax:∃n dE z k' c4 off,y=.load n dE z/\bf tm z=.ptr k' c4 off
    ·obtain⟨n,dE,z,k',c4,off,rfl,a8⟩:=ax;have G:=D (.rd k' off (off+n)) (by simp[dq,a8,BG]);simp only[gM,cl,a8,hd];rw[ahJ hm];simp[oL] at G;exact G
    ·refine (XB E λb ah=>?_).symm
     exfalso
     rcases ahH ah with ⟨k',rfl⟩|⟨n,dE,z,k',c4,off,ag,aR,_⟩|⟨ct,f,l,ag⟩
     ·have:=D _ ah;simp[oL] at this
     ·exact ax ⟨n,dE,z,k',c4,off,ag,aR⟩
     ·exact E _ _ _ ag
theorem XG {tm:Nat->O}{op:iF}(h:pP op=0):dq tm op=[]/\ig op=false:=by
 cases op<;>simp_all [pP,ig,dq]
 all_goals (rename_i b _ _ _ _;cases b<;>simp_all [ig,dq])
theorem XH {op:iF}(h:pP op=1):ig op=false:=by
 cases op<;>simp_all [pP,ig]
 all_goals (rename_i b _ _ _ _;cases b<;>simp_all [ig])
end Go.Mini
namespace Go.Mini
open Go
variable {T:br} {iv:Nat->Nat->Bool}
def uI (T:br)(iv:Nat->Nat->Bool)(i:Nat)(x:cZ)(rec:Rec)(st:bz)(vU:Rec)(dy:bz):Prop :=
 (mK st.tm x.g=some false/\vU=rec/\dy=⟨put st.tm x.dst .no,st.mem⟩) \/
 (mK st.tm x.g=some true/\∃m e,gM T st.mem st.tm x.op=some (m,e)/\(∀p q,iv p i=true->rec p=some q->oM q (ig x.op,dq st.tm x.op)=true) /\
  vU=rN rec i (ig x.op,dq st.tm x.op)/\dy=⟨put st.tm x.dst m,hd st.mem e⟩)
theorem tc {tm:Nat->O}{dst:Option Nat}{m:O}{s:Nat}(h:dst≠some s):put tm dst m s=tm s:=by
 cases dst with
 |none=>rfl
 |some d =>
  have:s≠d:=λe=>h (by rw[e]);simp[put,this]
theorem put_comm {tm:Nat->O}{d uG:Option Nat}{m m':O}(h:∀s,d=some s->uG≠some s):put (put tm d m) uG m'=put (put tm uG m') d m:=by
 funext s
 by_cases D:d=some s
 ·rw[tc (h s D)];subst D;simp[put]
 ·rw[tc (dst:=d) D]
  by_cases G:uG=some s
  ·subst G;simp[put]
  ·rw[tc G,tc G,tc D]
theorem XI {tm tm':Nat->O}{g:Option (Nat×Bool)}(h:∀s b,g=some (s,b)->tm s=tm' s):mK tm g=mK tm' g:=by
 cases g with
 |none=>rfl
 |some p =>
  obtain⟨s,b⟩:=p;simp only[mK,h s b rfl]
theorem XJ {x y:cZ}(h:ux x y=true):(∀d,x.dst=some d->d ∉ looks y)/\(∀d,x.dst=some d->y.dst≠some d)/\(∀d,y.dst=some d->d ∉ looks x):=by
 refine⟨λd ae=>?_,λd ae=>?_,λd ae=>?_⟩<;>simp[ux,ae] at h
 ·exact h.1.1
 ·exact h.1.2
 ·exact h.2
theorem Jv {x:cZ}{s:Nat}(h:s∈pQ x.op):s∈looks x:=by simp[looks,h]
theorem XK {x:cZ}{s:Nat}{b:Bool}(h:x.g=some (s,b)):s∈looks x:=by simp[looks,h]
theorem ahM (a b:lh):oL a b=oL b a:=by
 have E:∀k k':Nat,(k==k')=(k'==k):=λk k'=>BEq.comm
 cases a<;>cases b<;>first|rfl|(unfold oL;dsimp only;rw[E])
theorem XL {a b:Bool×List lh}(h:oM a b=true):oM b a=true:=by
 unfold oM at *;simp only[Jw,Bool.not_eq_true',Bool.or_eq_false_iff,h2] at *;rcases h with ⟨D,G⟩|h
 ·exact .inl ⟨G,D⟩
 ·exact .inr λx I y ak=>by rw[ahM];exact h y ak x I
theorem ahN {mem:Mem}{e e':Option (Key×Nat×List O)}(h:∀j g cs ka c4 lj,e=some (j,g,cs)->e'=some (ka,c4,lj)->j≠ka):hd (hd mem e) e'=hd (hd mem e') e:=by
 cases e with
 |none=>rfl
 |some p =>
  cases e' with
  |none=>rfl
  |some p' =>
   obtain⟨j,g,cs⟩:=p;obtain⟨ka,c4,lj⟩:=p';have bZ:=h _ _ _ _ _ _ rfl rfl
   funext k
   simp only[hd,bI]
   by_cases D:k=ka
   ·by_cases G:k=j
    ·exact absurd (G.symm.trans D) bZ
    ·simp[D,G];intro ag;exact absurd ag.symm bZ
   ·simp[D]
def Passes (iv:Nat->Nat->Bool)(i j:Nat)(x y:cZ):Prop:=iv i j=true\/vI (pP x.op) (pP y.op)=true
theorem ahO {i j:Nat}{x y:cZ}{tm:Nat->O}(h:Passes iv i j x y)(E:iv i j=true->oM (ig x.op,dq tm x.op) (ig y.op,dq tm y.op)=true):
  oM (ig x.op,dq tm x.op) (ig y.op,dq tm y.op)=true:=by
 rcases h with h|h
 ·exact E h
 ·unfold vI at h;simp only[Jw,eX,beq_iff_eq] at h;rcases h with (h|h)|⟨D,G⟩
  ·obtain⟨D,G⟩:=XG (tm:=tm) h;simp[oM,D]
  ·obtain⟨D,G⟩:=XG (tm:=tm) h;simp[oM,D]
  ·have D:=XH D;have G:=XH G;simp[oM,D,G]
theorem uI.comm {i j:Nat}{x y:cZ}{rec oW Jx:Rec}{st oX Jy:bz}(kW:i≠j)(ev:ux x y=true)(aG:Passes iv i j x y)(NF:∀a b,iv a b=iv b a)(zE:rec i=none)
  (D:uI T iv i x rec st oW oX) (G:uI T iv j y oW oX Jx Jy):∃Fw Fx,uI T iv j y rec st Fw Fx/\uI T iv i x Fw Fx Jx Jy:=by
 obtain⟨aM,ah,E⟩:=XJ ev
 -- what one sees of the other's temporary: nothing
 have ahP:∀m,mK (put st.tm x.dst m) y.g=mK st.tm y.g:=λm=>XI λs b aa=>tc λae=>aM s ae (XK aa);have ahQ:∀mem m,gM T mem (put st.tm x.dst m) y.op=gM T mem st.tm y.op:=λmem m=>Xy λs aa=>tc λae=>aM s ae (Jv aa);have ahR:∀m,dq (put st.tm x.dst m) y.op=dq st.tm y.op:=λm=>Xz λs aa=>tc λae=>aM s ae (Jv aa);have Jz:∀m,mK (put st.tm y.dst m) x.g=mK st.tm x.g:=λm=>XI λs b aa=>tc λae=>E s ae (XK aa);have XM:∀mem m,gM T mem (put st.tm y.dst m) x.op=gM T mem st.tm x.op:=λmem m=>Xy λs aa=>tc λae=>E s ae (Jv aa);have JA:∀m,dq (put st.tm y.dst m) x.op=dq st.tm x.op:=λm=>Xz λs aa=>tc λae=>E s ae (Jv aa);have uJ:∀m m',put (put st.tm x.dst m) y.dst m'=put (put st.tm y.dst m') x.dst m:=λm m'=>put_comm ah;rcases D with ⟨dh,rfl,rfl⟩|⟨dh,cJ,aw,s1,bm,rfl,rfl⟩<;>rcases G with ⟨cR,rfl,rfl⟩|⟨cR,cE,aB,s2,bN,rfl,rfl⟩<;>simp only[ahP,ahQ,ahR] at *
 ·exact⟨_,_,.inl ⟨cR,rfl,rfl⟩,.inl ⟨by simp only[Jz];exact dh,rfl,by simp only[uJ]⟩⟩
 ·exact⟨_,_,.inr ⟨cR,cE,aB,s2,bN,rfl,rfl⟩,.inl ⟨by simp only[Jz];exact dh,rfl,by simp only[uJ]⟩⟩
 ·exact⟨_,_,.inl ⟨cR,rfl,rfl⟩,.inr ⟨by simp only[Jz];exact dh,cJ,aw,by simp only[XM];exact s1,by simp only[JA];exact bm,by simp only[JA],by simp only[uJ]⟩⟩
 ·have rY:iv i j=true->oM (ig x.op,dq st.tm x.op) (ig y.op,dq st.tm y.op)=true:=λh=>bN i _ h (by simp[rN]);have xG:=ahO (tm:=st.tm) aG rY;have NG:gM T st.mem st.tm y.op=some (cE,aB):=by rw[<-s2];exact (XF s1 xG).symm
  have fu:∀j g cs ka c4 lj,aw=some (j,g,cs)->aB=some (ka,c4,lj)->j≠ka:=by
   rintro k g cs k' c4 lj rfl rfl rfl;rcases ND s1 with h|⟨hw,dN,cR,mQ,h,D⟩
   ·cases h
   ·cases h;rcases ND NG with h|⟨axA,jR,lp,axB,h,G⟩
    ·cases h
    ·cases h;unfold oM at xG;simp only[hw,Bool.true_or,Bool.not_true,Bool.false_or,h2] at xG;rcases D with D|⟨i,c,qN,D,_,_⟩<;>rcases G with G|⟨bt,c',axC,G,_,_⟩
     ·have:=xG _ D _ G;simp[oL] at this
     ·have:=xG _ D (.wr k bt) (by rw[G];exact gP);simp[oL] at this
     ·have:=xG (.wr k i) (by rw[D];exact gP) _ G;simp[oL] at this
     ·have:=xG (.wr k i) (by rw[D];exact gP) (.wr k bt) (by rw[G];exact gP);simp[oL] at this
  refine⟨_,_,.inr ⟨cR,cE,aB,NG,λp q JB aF=>?_,rfl,rfl⟩,.inr ⟨by simp only[Jz];exact dh,cJ,aw,?_,?_,?_,?_⟩⟩
  ·have bZ:p≠i:=λh=>by rw[h,zE] at aF;cases aF
   exact bN p q JB (by simp[rN,bZ,aF])
  ·simp only[XM];rw[<-s1];exact XF NG (XL xG)
  ·simp only[JA];intro p q XN aF
   by_cases JB:p=j
   ·subst JB;simp only[rN,if_true,cz] at aF;subst aF;exact XL (rY (by rw[NF];exact XN))
   ·simp only[rN,JB,if_false] at aF;exact bm p q XN aF
  ·simp only[JA]
   funext p
   simp only[rN]
   by_cases D:p=i
   ·subst D;simp[kW]
   ·simp[D]
  ·simp only[uJ];rw[ahN fu]
end Go.Mini
namespace Go.Mini
open Go
variable {T:br} {iv:Nat->Nat->Bool} {ops:Array Oper} {l:List cZ} {K:bz->Prop}
def B8 (T:br)(iv:Nat->Nat->Bool)(ops:Array Oper)(l:List cZ)(K:bz->Prop):Nat->Array Bool->Rec->bz->Prop
 |0,ew,_,st=>Region.ready .any ops ew=[]/\K st
 |fuel+1,ew,rec,st=>(Region.ready .any ops ew=[]->K st) /\
  ∀i∈Region.ready .any ops ew,∃x vU dy,l[i]?=some x/\uI T iv i x rec st vU dy/\B8 T iv ops l K fuel (ew.setIfInBounds i true) vU dy
def xH (ops:Array Oper)(ew:Array Bool):Prop :=
 ew.size=ops.size/\∀(j:Nat) (ar:Oper),ops[j]?=some ar->ew.getD j false=true->∀e∈ar.after,Region.binds .any e=true->ew.getD e.on false=true
theorem xH.set {ew:Array Bool}{i:Nat}(h:xH ops ew)(Q:i∈Region.ready .any ops ew):xH ops (ew.setIfInBounds i true):=by
 refine⟨by simp[h.1],λj ar ay ax e he ah=>?_⟩
 by_cases kX:j=i
 ·subst kX;obtain⟨_,Fy,bM,eE⟩:=mem_ready.1 Q;rw[ay] at bM
  cases bM;exact getD_set_true (eE e he ah)
 ·rw[getD_set_ne false (Ne.symm kX)] at ax;exact getD_set_true (h.2 j ar ay ax e he ah)
def NH (iv:Nat->Nat->Bool)(ops:Array Oper)(l:List cZ):Prop :=
 ∀(i j:Nat) (x y:cZ),i≠j->l[i]?=some x->l[j]?=some y ->
  (∀ew,xH ops ew->i∈Region.ready .any ops ew->j∈Region.ready .any ops ew->False)\/(ux x y=true/\Passes iv i j x y)
theorem XO {i k:Nat}{x:cZ}{rec vU:Rec}{st dy:bz}(h:uI T iv i x rec st vU dy)(R:k≠i):vU k=rec k:=by
 rcases h with ⟨_,rfl,_⟩|⟨_,_,_,_,_,rfl,_⟩
 ·rfl
 ·simp[rN,R]
theorem ahS {ew:Array Bool}{i k:Nat}(h:(ew.setIfInBounds i true).getD k true=false):k≠i/\ew.getD k true=false:=by
 by_cases oY:i=k
 ·subst oY
  exfalso
  by_cases az:i<ew.size
  ·simp[az] at h
  ·have:(ew.setIfInBounds i true).size<=i:=by simp;omega
   rw[Array.getD_eq_getD_getElem?,Array.getElem?_eq_none this] at h;simp at h
 ·rw[getD_set_ne true oY] at h;exact⟨λcu=>oY cu.symm,h⟩
theorem ahT (aG:NH iv ops l)(NF:∀a b,iv a b=iv b a){i:Nat}{x:cZ}(Q:l[i]?=some x):∀(fuel:Nat) (ew:Array Bool) (rec:Rec) (st:bz) (oW:Rec) (oX:bz),
  xH ops ew->(∀k,ew.getD k true=false->rec k=none)->i∈Region.ready .any ops ew->uI T iv i x rec st oW oX ->
  B8 T iv ops l K fuel (ew.setIfInBounds i true) oW oX->B8 T iv ops l K (fuel+1) ew rec st:=by
 intro fuel
 induction fuel with
 |zero =>
  intro ew rec st oW oX eW uK U he g9;refine⟨λh=>(by rw[h] at U;cases U),λj ay=>?_⟩
  by_cases kX:j=i
  ·subst kX;exact⟨x,oW,oX,Q,he,g9⟩
  ·have:=ready_mono ay kX;rw[g9.1] at this
   cases this
 |succ fuel aA =>
  intro ew rec st oW oX eW uK U he g9;refine⟨λh=>(by rw[h] at U;cases U),λj ay=>?_⟩
  by_cases kX:j=i
  ·subst kX;exact⟨x,oW,oX,Q,he,g9⟩
  ·obtain⟨y,Jx,Jy,ak,gj,hV⟩:=g9.2 j (ready_mono ay kX);rcases aG i j x y (Ne.symm kX) Q ak with fB|⟨ev,ahU⟩
   ·exact (fB ew eW U ay).elim
   ·obtain⟨Fw,Fx,D,G⟩:=uI.comm (Ne.symm kX) ev ahU NF (uK i (mem_ready.1 U).1) he gj;refine⟨y,Fw,Fx,ak,D,aA _ Fw Fx Jx Jy (eW.set ay) (λk R=>?_) (ready_mono U (Ne.symm kX)) G ?_⟩
    ·obtain⟨ag,aR⟩:=ahS R;rw[XO D ag];exact uK k aR
    ·rw[Array.setIfInBounds_comm _ _ kX];exact hV
theorem NI:∀(r:List Oper) (acc:List Nat) (k:Nat),k<(o acc)->(nX r acc).getD k 0=acc.getD k 0
 | [],acc,k,_=>rfl
 |ar::r,acc,k,R=>by
  simp only[nX];rw[NI r _ k (by simp;omega)];simp only[fP];rw[uA R]
theorem ahV {es:List Edge}{acc:List Nat}{i:Nat}:∀(s:Nat),(es.foldl (λs e=>if Region.binds .any e=true then s ||| (2^e.on ||| acc.getD e.on 0) else s) s).testBit i=true ->
  s.testBit i=true\/∃e∈es,Region.binds .any e=true/\(e.on=i\/(acc.getD e.on 0).testBit i=true):=by
 induction es with
 |nil=>exact λs h => .inl h
 |cons e es aA =>
  intro s h;rw[WY] at h;rcases aA _ h with D|⟨e',D,G⟩
  ·split at D
   ·rename_i ah;rw[XP,XP,Jw,Jw] at D;rcases D with D|D|D
    ·exact .inl D
    ·rw[Nat.testBit_two_pow] at D;exact .inr ⟨e,by simp,ah,.inl (by simpa using D)⟩
    ·exact .inr ⟨e,by simp,ah,.inr D⟩
   ·exact .inl D
  ·exact .inr ⟨e',by simp[D],G⟩
theorem XQ:∀(r:List Oper) (acc:List Nat) (t:Nat) (ar:Oper),r[t]?=some ar->∀i,((nX r acc).getD (o acc+t) 0).testBit i=true ->
  ∃e∈ar.after.toList,Region.binds .any e=true/\(e.on=i\/(e.on<o acc+t/\((nX r acc).getD e.on 0).testBit i=true))
 | [],_,_,_,h,_,_=>by simp at h
 |Fy::r,acc,0,ar,h,i,ah=>by
  simp at h;subst h;simp only[nX,vQ] at ah ⊢;rw[NI r _ _ (by simp)] at ah;simp only[fP] at ah;rw[WR (cA _)] at ah;simp only[xA,Fz,XR] at ah;rcases ahV (acc:=acc) 0 (by simpa only [fP] using ah) with D|⟨e,D,G,ag⟩
  ·simp at D
  ·refine⟨e,D,G,ag.imp id λh=>?_⟩
   have az:e.on<o acc:=by
    rcases h1 e.on (o acc) with cu|cu
    ·exact cu
    ·rw[fP,nh cu] at h;simp at h
   refine⟨az,?_⟩;rw[NI r _ _ (by simp;omega),fP,uA az,<-fP];exact h
 |Fy::r,acc,t+1,ar,h,i,ah=>by
  have cu:r[t]?=some ar:=by simpa using h
  simp only[nX] at ah ⊢
  have:=XQ r (acc++[Fy.after.toList.foldl (λs e=>if Region.binds .any e=true then s ||| (2^e.on ||| acc.getD e.on 0) else s) 0]) t ar cu i (by
   rw[fE,List.length_singleton,nZ,xq 1 t];exact ah)
  obtain⟨e,D,G,ag⟩:=this;refine⟨e,D,G,ag.imp id λh=>⟨by have:=h.1;simp at this;omega,h.2⟩⟩
theorem ahW {ew:Array Bool}(eW:xH ops ew):∀(j:Nat) (ar:Oper),ops[j]?=some ar->(∀e∈ar.after,Region.binds .any e=true->ew.getD e.on false=true) ->
  ∀i,((nX ops.toList []).getD j 0).testBit i=true->ew.getD i false=true:=by
 intro j
 induction j using Nat.strongRecOn with
 |_ j aA =>
  intro ar bM eE i Q;obtain⟨e,he,ah,h⟩:=XQ ops.toList [] j ar (by simpa using bM) i (by simpa using Q);have ax:=eE e (by simpa using he) ah;rcases h with rfl|⟨az,ahX⟩
  ·exact ax
  ·have eu:e.on<ops.size:=by
    rw[<-eW.1];rcases h1 e.on ew.size with cu|cu
    ·exact cu
    ·simp[Array.getElem?_eq_none cu] at ax
   have XS:ops[e.on]?=some ops[e.on]:=Array.getElem?_eq_getElem eu;exact aA e.on (by simpa using az) _ XS (eW.2 e.on _ XS ax) i ahX
theorem XT:∀(cs pre:List cZ) (as:List Nat),BM pre cs as=true->∀(t:Nat) (y:cZ),cs[t]?=some y->∀(i:Nat) (x:cZ),(pre++cs)[i]?=some x->i<o pre+t ->
  (as.getD t 0).testBit i=true\/ux x y=true
 | [],_,_,_,_,_,h,_,_,_,_=>by simp at h
 |_::_,_,[],h,_,_,_,_,_,_,_=>by simp[BM] at h
 |c::cs,pre,a::as,h,0,y,ak,i,x,I,az=>by
  simp only[BM,eX,h2] at h;simp at ak;subst ak;have Q:i<o pre:=by simpa using az
  rw[uA Q] at I;have:=h.1 (x,i) (by rw[XU];exact I)
  simpa using this
 |c::cs,pre,a::as,h,t+1,y,ak,i,x,I,az=>by
  simp only[BM,eX] at h;have:=XT cs (pre++[c]) as h.2 t y (by simpa using ak) i x (by simpa using I) (by simp;omega)
  simpa using this
theorem XV:∀(cs pre:List cZ) (as:List Nat) (t:Nat) (y:cZ),cs[t]?=some y->∀(i:Nat) (x:cZ),(pre++cs)[i]?=some x->i<o pre+t ->
  (as.getD t 0).testBit i=true\/vI (pP x.op) (pP y.op)=true\/i∈(vJ pre cs as).getD t []
 | [],_,_,_,_,h,_,_,_,_=>by simp at h
 |c::cs,pre,as,0,y,ak,i,x,I,az=>by
  simp at ak;subst ak;have Q:i<o pre:=by simpa using az
  rw[uA Q] at I;have ir:(x,i)∈pre.zipIdx:=by rw[XU];exact I
  by_cases D:(as.getD 0 0).testBit i=true
  ·exact .inl D
  ·by_cases G:vI (pP x.op) (pP c.op)=true
   ·exact .inr (.inl G)
   ·refine .inr (.inr ?_);simp only[vJ,fP,Fz,XR];refine List.mem_map.2 ⟨(x,i),List.mem_filter.2 ⟨ir,?_⟩,rfl⟩;have ag:as.headD 0=as.getD 0 0:=by cases as<;>rfl
    simp only[ag];rw[fP] at D;simp[D,G]
 |c::cs,pre,as,t+1,y,ak,i,x,I,az=>by
  have:=XV cs (pre++[c]) as.tail t y (by simpa using ak) i x (by simpa using I) (by simp;omega);have ag:as.tail.getD t 0=as.getD (t+1) 0:=by cases as<;>simp
  rw[ag] at this
  simpa [vJ] using this
def td (c:List (List Nat))(i j:Nat):Bool:=if i<j then (c.getD j []).contains i else if j<i then (c.getD i []).contains j else false
theorem XW (c:List (List Nat))(i j:Nat):td c i j=td c j i:=by
 unfold td
 by_cases D:i<j
 ·simp[D,XX D]
 ·by_cases G:j<i
  ·simp[G,XX G]
  ·simp[D,G]
theorem ahY {x y:cZ}(h:ux x y=true):ux y x=true:=by
 obtain⟨D,G,ag⟩:=XJ h;unfold ux;rw[eX]
 constructor
 ·cases ak:y.dst with
  |none=>rfl
  |some d =>
   have a:=ag d ak;have b:x.dst≠some d:=λI=>G d I ak;simp[a,b]
 ·cases I:x.dst with
  |none=>rfl
  |some d =>
   have a:=D d I;simp[a]
theorem ahZ (a b:Nat):vI a b=vI b a:=by
 unfold vI
 cases (a==0)<;>cases (b==0)<;>cases (a==1)<;>cases (b==1)<;>rfl
theorem ah0 (ae:BO ops l=true):NH (td (vJ [] l (nX ops.toList []))) ops l:=by
 have key:∀(i j:Nat) (x y:cZ),i<j->l[i]?=some x->l[j]?=some y ->
   (∀ew,xH ops ew->i∈Region.ready .any ops ew->j∈Region.ready .any ops ew->False) \/
   (ux x y=true/\(td (vJ [] l (nX ops.toList [])) i j=true\/vI (pP x.op) (pP y.op)=true)):=by
  intro i j x y kW I ak;unfold BO at ae;rw[eX] at ae
  by_cases ah:((nX ops.toList []).getD j 0).testBit i=true
  ·refine .inl λew eW Q ay=>?_;obtain⟨_,ar,bM,eE⟩:=mem_ready.1 ay;have D:=ahW eW j ar bM eE i ah;have au:=(mem_ready.1 Q).1;rcases h1 i ew.size with cu|cu
   ·simp[cu] at au D;rw[au] at D;cases D
   ·simp[Array.getElem?_eq_none cu] at D
  ·refine .inr ⟨?_,?_⟩
   ·rcases XT l [] _ ae.2 j y ak i x (by simpa using I) (by simpa using kW) with h|h
    ·exact absurd h ah
    ·exact h
   ·rcases XV l [] (nX ops.toList []) j y ak i x (by simpa using I) (by simpa using kW) with h|h|h
    ·exact absurd h ah
    ·exact .inr h
    ·exact .inl (by unfold td;rw[aj kW];exact XY.2 h)
 intro i j x y kW I ak;rcases Nat.lt_or_gt_of_ne kW with h|h
 ·exact key i j x y h I ak
 ·rcases key j i y x h ak I with D|⟨D,G⟩
  ·exact .inl λew eW Q ay=>D ew eW ay Q
  ·refine .inr ⟨ahY D,?_⟩;rcases G with G|G
   ·exact .inl (by rw[XW];exact G)
   ·exact .inr (by rw[ahZ];exact G)
end Go.Mini
namespace Go.Mini
open Go
variable {P:Program} {T:br} {A:Nat->Prop} {ee w:World} {gH B:Lay} {mem:Mem} {n kb:Nat} {own:List Nat} {ops:Array Oper} {l:List cZ} {K:bz->Prop} {aT:Exit->Act->World->Prop}
theorem XZ:∀(r:List Oper) (m:Nat),BN m r=true->∀(t:Nat) (ar:Oper),r[t]?=some ar->∀e∈ar.after,Region.binds .any e=true->e.on<m+t
 | [],_,_,_,_,h,_,_,_=>by simp at h
 |Fy::r,m,h,0,ar,bM,e,he,ah=>by
  simp only[BN,eX] at h;simp at bM;subst bM;have:=(Array.all_eq_true_iff_forall_mem.1 h.1) e he
  simpa [ah] using this
 |Fy::r,m,h,t+1,ar,bM,e,he,ah=>by
  simp only[BN,eX] at h;have:=XZ r (m+1) h.2 t ar (by simpa using bM) e he ah;omega
theorem X0 {c:List (List Nat)}(aG:NH (td c) ops l)(ax:(o l)=ops.size)(he:BN 0 ops.toList=true):∀(r:List cZ) (m:Nat) (rec:Rec) (st:bz) (ew:Array Bool),l.drop m=r->m+o r=(o l) ->
  ew.size=ops.size->(∀i,i<ops.size->ew.getD i true=decide (i<m))->(∀k,m<=k->rec k=none)->sY T K m r (c.drop m) rec st->B8 T (td c) ops l K (o r) ew rec st
 | [],m,rec,st,ew,U,hm,aa,hli,uK,h=>by
  refine⟨List.eq_nil_iff_forall_not_mem.2 λi Q=>?_,h⟩;obtain⟨D,ar,bM,_⟩:=mem_ready.1 Q;have az:i<ops.size:=(Array.getElem?_eq_some_iff.1 bM).1;rw[hli i az] at D;simp at D hm;omega
 |x::r,m,rec,st,ew,U,hm,aa,hli,uK,h=>by
  have az:m<ops.size:=by simp at hm;omega
  have bM:ops[m]?=some ops[m]:=Array.getElem?_eq_getElem az
  have I:l[m]?=some x:=by
   have:(l.drop m)[0]?=some x:=by rw[U];rfl
   simpa using this
  have h4:=λ(j:Nat) (ar:Oper) (ay:ops[j]?=some ar)=>XZ ops.toList 0 he j ar (by simpa using ay)
  have cL:∀i,i<m->ew.getD i false=true:=λi Q=>by
   have D:=hli i (by omega);rw[hc Q] at D;have G:i<ew.size:=by omega
   simpa [G] using D
  have eW:xH ops ew:=⟨aa,λj ar ay ik e nn ah=>by
   have D:=h4 j ar ay e nn ah;have ng:j<ops.size:=(Array.getElem?_eq_some_iff.1 ay).1
   have G:j<m:=by
    have:=hli j ng;have ag:j<ew.size:=by omega
    simp[ag] at ik this;rw[ik] at this
    simpa using this.symm
   exact cL _ (by omega)⟩
  have ah1:m∈Region.ready .any ops ew:=mem_ready.2 ⟨by rw[hli m az];simp,_,bM,λe nn ah=>cL _ (by have:=h4 m _ bM e nn ah;omega)⟩
  have ah2:∀k,ew.getD k true=false->rec k=none:=λk R=>uK k (by
   rcases h1 k ops.size with cu|cu
   ·rw[hli k cu] at R
    simpa using R
   ·omega)
  have next:∀oW oX,uI T (td c) m x rec st oW oX->sY T K (m+1) r (c.drop m).tail oW oX->B8 T (td c) ops l K (o r+1) ew rec st:=by
   intro oW oX hex R;refine ahT aG (XW c) I _ ew rec st oW oX eW ah2 ah1 hex (X0 aG ax he r (m+1) oW oX _ ?_ (by simp at hm;omega) (by simpa using aa) (λi Q=>?_) (λk R=>?_) ?_)
   ·rw[<-B9,U]
    rfl
   ·by_cases him:m=i
    ·subst him;have:m<ew.size:=by omega
     simp[this]
    ·rw[getD_set_ne true him,hli i Q]
     congr 1
     simp;omega
   ·rw[XO hex (by omega)];exact uK k (by omega)
   ·rw[List.tail_drop] at R;exact R
  simp only[sY] at h
  split at h
  ·cases h
  ·rename_i g bw
   split at h
   ·rename_i js;subst js
    split at h
    ·rename_i ck e aa;refine next _ _ (.inr ⟨bw,ck,e,aa,λp q n4 aF=>?_,rfl,rfl⟩) h.2
     have rU:p<m:=by
      rcases h1 p m with cu|cu
      ·exact cu
      ·rw[uK p cu] at aF;cases aF
     have NJ:=h.1;unfold BI at NJ;rw[h2] at NJ
     have ir:p∈(c.drop m).headD []:=by
      unfold td at n4;rw[aj rU] at n4
      have:(c.drop m).headD []=c.getD m []:=by
       rw[List.headD_eq_head?_getD,List.head?_drop,fP]
      rw[this];exact XY.1 n4
     have:=NJ p ir;rw[aF] at this;exact this
    ·cases h
   ·rename_i ah3;have ah4:g=false:=by simpa using ah3
    subst ah4;exact next _ _ (.inl ⟨bw,rfl,rfl⟩) h
theorem FA (h:eK A w B mem):eK (ca A B) w (λ_=>none) emp :=
 ⟨λ_ _=>rfl,λ_ _ _ _ _ h=>(by cases h),λb _ ⟨_,_,h,_⟩=>(by cases h),λb ah=>ah.elim (λcu=>h.uo cu) (h.lt b),λ_ _ _ h=>(by cases h)⟩
theorem vV (b:Nat):ca (ca A B) (λ_=>none) b↔ca A B b :=
 ⟨λh=>h.elim (fun⟨_,_,h,_⟩=>by cases h) id,.inr⟩
theorem X1 {m:O}{v:Value}(h:bA w (ca A B) B m v):bA w (ca (ca A B) λ_=>none) (λ_=>none) (shut m) v:=by
 cases h with
 |J h=>exact .J (h.less λb ah=>(vV b).1 ah)
 |nil=>exact .nil
 |e5 ax ae =>
  rename_i f en vs
  cases en with
  |nil=>exact .e5 ax λi d v h=>by simp at h
  |cons c r=>exact .undef
 |agg ax ae =>
  rename_i cs vs;simp only[shut]
  cases E:cs.mapM rK with
  |none=>exact .undef
  |some ds =>
   obtain⟨D,G⟩:=me E;refine .J (.agg (ax.trans D.symm) λi d v Q ad=>?_);have az:i<o cs:=by have:=(ef.1 Q).1;omega
   have g8:=bL az;exact (W5 (G i _ d g8 Q) (ae i _ v g8 ad)).less λb ah=>(vV b).1 ah
 |_=>exact .undef
theorem shut_list {ms:List O}{vs:List Value}(h:db w (ca A B) B ms vs):db w (ca (ca A B) λ_=>none) (λ_=>none) (ms.map shut) vs:=by
 refine⟨by simpa using h.1,λi m v hm ad=>?_⟩
 rw[bb,dI] at hm;obtain⟨m',lq,rfl⟩:=hm;exact X1 (h.2 i m' v lq ad)
theorem xF.less {w aI:World}{aS kr:Nat->Prop}{sz:Nat}{es:List (List Data)}{v:Value}(ax:∀b,kr b->aS b)(h:xF w aI aS sz es v):xF w aI kr sz es v:=by
 obtain⟨D,a,cap,G,ag,aR,bs⟩:=h;refine⟨D,a,cap,G,ag,aR,bs.imp id ?_⟩;rintro⟨b,vs,T,b1,cd,de,jt,hs⟩;exact⟨b,vs,T,b1,cd,de,jt,λi d ae=>let ⟨u,hu,qL⟩:=hs i d ae;⟨u,hu,qL.less λdO g6=>g6.imp (ax dO) id⟩⟩
theorem zF {ar:Oper}{c:Call}{f:FuncId}{a:Act}(bM:ar.op=.call c)(kz:c.callee=.value (.func f))(kx:Real P f):(execOp a.eval ar).run P w=.ok (.enter f (c.args.toList.map a.eval).toArray) w:=by
 obtain⟨dst,op,type,pos,after,guard⟩:=ar;simp only at bM;subst bM;obtain⟨callee,vT,Jr⟩:=c;simp only at kz;subst kz;simp only[execOp,resolve,Deferred.ofValue,Act.eval,invoke,Sem.run_bind,Sem.run_pure,Result.andThen_ok,Jq kx];rw[xD vT];simp
theorem X2 {aS:Nat->Prop}{b off c sz len:Nat}{vs:Array Value}{T:TypeId}{ds:List Data}(a6:w.heap[b]?=some (.cells vs T (0,0)))(fo:¬ aS b)(ax:(o ds)=len*sz)(ah5:len<=c)(hm:len<=maxLen)(Fi:off+len*sz<=vs.size)
  (ae:∀(i:Nat) (d:Data) (v:Value),ds[i]?=some d->vs[off+i]?=some v->Den w aS d v):Den w aS (.X (chunk sz len ds)) (.slice (some ⟨b,off,none⟩) len c):=by
 have eW:=Ji sz len ds
 have h:=Den.X (w:=w) (aS:=aS) (es:=chunk sz len ds) (b:=b) (off:=off) (c:=c) (sz:=sz) (λi=>vs.getD (off+i) undef) (by rw[eW];exact ah5) (by rw[eW];exact hm)
  (Array.getElem?_eq_some_iff.1 a6).1 fo (Jj sz len ds ax)
  (λi Q=>by
   rw[eW] at Q;rw[cell_of_row w b (off+i) vs T (0,0) a6];have:off+i<vs.size:=by omega
   simp[this])
  (λi d lU=>by
   rw[Jk sz len ds ax] at lU;have az:i<o ds:=(ef.1 lU).1;have hr:off+i<vs.size:=by omega
   have:vs.getD (off+i) undef=vs[off+i]:=by simp[hr]
   simp only[this];exact ae i d _ lU (Array.getElem?_eq_getElem hr))
 rw[eW] at h;exact h
theorem ah6 {mem:Mem}{k g sz off len:Nat}{cs:List O}{d:Data}(hm:mem k=some (g,cs))(h:E8 sz off len cs=some d):da 1 mem (.ref k g sz off len)=some d:=by
 have a8:∀(m:O) (d:Data),rK m=some d->da 0 mem m=some d:=λm d h=>by
  unfold rK at h
  split at h<;>simp_all [da]
 have ax:∀(l:List O) (ds:List Data),l.mapM rK=some ds->l.mapM (da 0 mem)=some ds:=by
  intro l
  induction l with
  |nil=>intro ds h;simpa using h
  |cons m l aA =>
   intro ds h;simp only[lT,gv,gF,dQ,cz] at h ⊢;obtain⟨x,I,zG,gh,rfl⟩:=h;exact⟨x,a8 m x I,zG,aA zG gh,rfl⟩
 unfold E8 at h
 split at h
 ·rename_i part aG;simp only[M7,dI] at h;obtain⟨ds,gh,rfl⟩:=h;simp only[da,hm,if_true,aG];rw[ax _ _ gh]
  rfl
 ·cases h
theorem FB {k:Key}{g sz off len:Nat}{cs:List O}{d:Data}{v:Value}(bY:eK A w B mem)(R:mem k=some (g,cs))(ae:da 1 mem (.ref k g sz off len)=some d)(ad:bA w (ca A B) B (.ref k g sz off len) v):
  Den w (ca A (fG B k ⟨b7 mem k,none,0⟩)) d v:=by
 have fo:∀b,ca A (fG B k ⟨b7 mem k,none,0⟩) b->ca A B b:=λb h=>h.imp (fun⟨j,e,ay,I⟩=>by
  by_cases dT:j=k
  ·subst dT;rw[gE] at ay;cases ay;cases I
  ·rw[gu B _ dT] at ay;exact⟨j,e,ay,I⟩) id
 simp only[da,R,if_true] at ae
 split at ae
 ·rename_i part NK;simp only[dI] at ae;obtain⟨ds,gh,rfl⟩:=ae;obtain⟨eW,rfl,rU⟩:=BT NK;obtain⟨D,G⟩:=me gh
  cases ad with
  |ref he hgle U =>
   obtain⟨e,fy,cb,aL,ah⟩:=bY.at_ R;rw[fy] at he;obtain rfl:=ln he;obtain⟨a,cap,rfl,ag,aR,bs⟩:=U;rcases bs with bs|⟨b,rfl,b1⟩
   ·have:len=0:=by omega
    subst this;simp only[chunk];exact .j7
   ·obtain⟨cd,de⟩:=b1 cb.symm;obtain⟨vs,T,a6,a8,hle,cK⟩:=ah b cd
    have ah7:¬ ca A (fG B k ⟨b7 mem k,none,0⟩) b:=by
     rintro (⟨j,aB,ay,I⟩|aM)
     ·by_cases dT:j=k
      ·subst dT;rw[gE] at ay;cases ay;cases I
      ·rw[gu B _ dT] at ay;exact dT (bY.inj j k aB _ b ay fy I cd)
     ·exact bY.sep b aM ⟨k,_,fy,cd⟩
    refine X2 a6 ah7 (by omega) ag (by omega) (by omega) λi x u I hu=>?_;have az:i<o ds:=(ef.1 I).1;have hr:off+i<o cs:=by omega
    have g8:((cs.drop off).take (len*sz))[i]?=some cs[off+i]:=by
     rw[nq (by omega),ll,bL hr]
    have rX:=G i _ x g8 I
    have lk:bA w (ca A B) B cs[off+i] u:=cK.2 (off+i) _ u (bL hr) (by
     rw[nq hr,Array.getElem?_toList];exact hu)
    generalize cs[off+i]=m at *
    cases m<;>simp only[da,cz,reduceCtorEq] at rX
    ·subst rX
     cases lk with
     |J h=>exact h.less fo
    ·subst rX
     cases lk;exact .j7
 ·cases ae
theorem ah8 {kr:Nat->Prop}{bB:Lay}(fo:∀b,kr b->ca A B b){m:O}{v:Value}(h:bA w (ca A B) B m v):bA w kr bB (shut m) v:=by
 have au:=X1 h;have ah9:∀b,kr b->ca (ca A B) (λ_=>none) b:=λb ah=>(vV b).2 (fo b ah)
 have go:∀{m:O},(∃d,m=.J d)\/m=.nil\/(∃f,m=.e5 f [])\/m=.undef->bA w (ca (ca A B) λ_=>none) (λ_=>none) m v->bA w kr bB m v:=by
  intro m hm h;rcases hm with ⟨d,rfl⟩|rfl|⟨f,rfl⟩|rfl
  ·cases h with
   |J h=>exact .J (h.less ah9)
  ·cases h;exact .nil
  ·cases h with
   |e5 ax ae=>exact .e5 ax λi d v h=>by simp at h
  ·exact .undef
 refine go ?_ au
 cases m<;>simp only[shut]
 case J d=>simp
 case nil=>simp
 case e5 f en=>cases en<;>simp
 case agg cs=>split<;>simp
 all_goals simp
theorem aia {k:Key}{g:Nat}{cs:List O}(h:eK A w B mem)(R:mem k=some (g,cs))(ae:nb cs=true):
  eK (λb=>A b\/∃j e,j≠k/\B j=some e/\e.dc=some b) w (λj=>if j=k then B k else none) (bI emp k g cs):=by
 have fo:∀b,ca (λb=>A b\/∃j e,j≠k/\B j=some e/\e.dc=some b) (λj=>if j=k then B k else none) b->ca A B b:=λb ah=>by
  rcases ah with ⟨j,e,ay,I⟩|aM|⟨j,e,_,ay,I⟩
  ·by_cases dT:j=k
   ·subst dT;simp only[if_true] at ay;exact .inl ⟨_,e,ay,I⟩
   ·simp only[dT,if_false] at ay;cases ay
  ·exact .inr aM
  ·exact .inl ⟨j,e,ay,I⟩
 refine⟨λj ay=>?_,λj ka e e' b D G _ _=>?_,λb aM bM=>?_,λb ah=>?_,λj c4 lj ay=>?_⟩
 ·by_cases dT:j=k
  ·subst dT;simp[bI] at ay
  ·simp only[dT,if_false]
 ·by_cases ay:j=k<;>by_cases ng:ka=k
  ·rw[ay,ng]
  ·simp only[ng,if_false] at G;cases G
  ·simp only[ay,if_false] at D;cases D
  ·simp only[ay,if_false] at D;cases D
 ·obtain⟨j,e,ay,I⟩:=bM
  by_cases dT:j=k
  ·subst dT;simp only[if_true] at ay;rcases aM with aM|⟨ka,e',bZ,ng,rX⟩
   ·exact h.sep b aM ⟨_,e,ay,I⟩
   ·exact bZ (h.inj _ _ e' e b ng ay rX I)
  ·simp only[dT,if_false] at ay;cases ay
 ·rcases ah with ah|⟨j,e,_,ay,I⟩
  ·exact h.lt b ah
  ·exact h.uo ⟨j,e,ay,I⟩
 ·by_cases dT:j=k
  ·subst dT;simp only[bI,if_true,cz,eU] at ay;obtain⟨rfl,rfl⟩:=ay;obtain⟨e,he,bw,aL,ah⟩:=h.dc _ _ _ R;refine⟨e,by simp only[if_true];exact he,bw,aL,λb ij=>?_⟩
   obtain⟨vs,T,a6,a8,hle,U⟩:=ah b ij;refine⟨vs,T,a6,a8,hle,λi m Q=>?_⟩;obtain⟨v,ad,n0⟩:=U i m Q;refine⟨v,ad,?_⟩;unfold nb at ae;rw[h2] at ae;have hm:=ae m (eN Q);rw[Xh] at hm;obtain⟨d,hm⟩:=hm;unfold rK at hm
   split at hm<;>cases hm
   ·cases n0 with
    |J n0=>exact .J (n0.less fo)
   ·cases n0;exact .nil
  ·simp only[bI,dT,if_false,emp] at ay;cases ay
theorem aib {aI:World}{k:Key}{rH:Nat->Prop}(h:eK A w B mem)(aic:∀b,rH b->∃e,B k=some e/\e.dc=some b)(f:Fr rH w aI):ea A w B aI (fG B k ⟨b7 mem k,none,0⟩) (bI mem k (b7 mem k) []) :=
 ea.change (e':=⟨b7 mem k,none,0⟩) h ⟨f.os,f.tape,f.output,f.size,λb ah bM=>f.block b ah λI=>bM (aic b I)⟩ (λe he => .inr (zm h k e he)) (λb ah=>by simp at ah) (λ_=>rfl) (λb ah=>by simp at ah)
theorem aid (cG:oU P T){a:Act}{st:bz}{ar:Oper}{i:cZ}{m:O}{e:Option (Key×Nat×List O)}(h:gT n A ee gH a st w B)(Q:NA P n kb own ops ar i)
  (aa:gM T st.mem st.tm i.op=some (m,e)):ar.wp P a w (λil aI=>∃bB,gT n A ee gH il ⟨put st.tm i.dst m,hd st.mem e⟩ aI bB) aT:=by
 have kQ:=Q.op
 have plain:cl st.mem st.tm i.op=some (m,e)->ar.wp P a w (λil aI=>∃bB,gT n A ee gH il ⟨put st.tm i.dst m,hd st.mem e⟩ aI bB) aT:=by
  intro aa
  have aW:ih P kb own ar.dst ar.type ar.op=some i.op:=getD_some kQ (by
   intro ah;rw[ah] at aa
   cases aa)
  obtain⟨B7,v,aI,bB,kT,ky,c1,ad⟩:=Xn h.ok.dC h.qM aW aa;unfold Oper.wp;rw[kT,Q.dst];have Fv:=h.put c1 ad Q.lt;rcases ky with rfl|⟨rfl,rfl⟩
  ·exact⟨bB,Fv⟩
  ·exact⟨bB,Fv⟩
 cases qP:i.op with
 |call f args =>
  have aW:ih P kb own ar.dst ar.type ar.op=some i.op:=getD_some kQ (by rw[qP];simp);rw[qP] at aW aa;obtain⟨c,E,kz,lW⟩:=Xt aW;have cK:=shut_list (uF h.qM lW);rw[lX] at cK;simp only[gM] at aa
  split at aa
  ·rename_i r hg
   cases aa;obtain⟨kx,h4⟩:=cG f _ _ _ hg;have ja:=h4 (ca A B) w (λ_=>none) _ (FA h.ok.dC) cK;unfold Oper.wp;rw[zF E kz kx,Q.dst];refine Calls.mono ja λe aI he=>?_;obtain⟨v,rfl,gx,ae⟩:=he;exact⟨B,h.put (.still h.ok.dC gx) (.J (ae.less λb ah=>(vV b).2 ah)) Q.lt⟩
  ·rename_i sz es hg
   cases aa;obtain⟨kx,h4⟩:=cG f _ _ _ hg;have ja:=h4 (ca A B) w (λ_=>none) _ (FA h.ok.dC) cK;unfold Oper.wp;rw[zF E kz kx,Q.dst];refine Calls.mono ja λe aI he=>?_;obtain⟨v,rfl,gx,ae⟩:=he;exact⟨B,h.put (.still h.ok.dC gx) (.J ((ae.less λb ah=>(vV b).2 ah).den λb ah=>ah.elim (λcu=>h.ok.dC.uo cu) (h.ok.dC.lt b))) Q.lt⟩
  ·cases aa
 |na k sz f args =>
  have aW:ih P kb own ar.dst ar.type ar.op=some i.op:=getD_some kQ (by rw[qP];simp);rw[qP] at aW aa;obtain⟨c,E,kz,lW⟩:=Xu aW;have cK:=shut_list (uF h.qM lW);rw[lX] at cK;simp only[gM] at aa
  split at aa
  ·rename_i dZ es hg
   split at aa
   ·rename_i eu;subst eu
    cases aa;obtain⟨kx,h4⟩:=cG f _ _ _ hg;have ja:=h4 (ca A B) w (λ_=>none) _ (FA h.ok.dC) cK;unfold Oper.wp;rw[zF E kz kx,Q.dst];refine Calls.mono ja λe aI he=>?_;obtain⟨v,rfl,gx,ae⟩:=he;obtain⟨bB,c1,ad⟩:=Xs k h.ok.dC gx (ae.less λb ah=>(vV b).2 ah);exact⟨bB,h.put c1 ad Q.lt⟩
   ·cases aa
  ·cases aa
 |lS ct f args =>
  have aW:ih P kb own ar.dst ar.type ar.op=some i.op:=getD_some kQ (by rw[qP];simp);rw[qP] at aW aa;obtain⟨c,E,kz,lW⟩:=ahn aW;have cK:=uF h.qM lW;simp only[gM] at aa;obtain⟨r,k,g,axD,cc,cs,hg,hm,rfl,rfl,aN⟩:=XE aa;obtain⟨kx,h4⟩:=cG f _ _ _ hg;have ja:=h4 A w B _ h.ok.dC cK;unfold Oper.wp;rw[zF E kz kx,Q.dst];refine Calls.mono ja λe aI he=>?_;obtain⟨v,bB,rfl,c1,ad⟩:=he;refine⟨bB,?_⟩;have rT:zj st.mem k=cs:=by simp only[zj,hm]
  rw[rT] at c1;exact h.put c1 ad Q.lt
 |qy j f args =>
  have aW:ih P kb own ar.dst ar.type ar.op=some i.op:=getD_some kQ (by rw[qP];simp);rw[qP] at aW aa;obtain⟨c,E,kz,lW⟩:=aho aW;have xI:=uF h.qM lW;simp only[gM] at aa;obtain⟨k,g,sz,off,len,cs,d,r,I,hm,ae,U,rfl,rfl⟩:=XC aa;have ok:=ea.uy h.ok.dC k
  have az:j<(c.args.toList.map a.eval).length:=by
   rw[xI.1];exact (ef.1 I).1
  have Fj:=bL az;have qL:=FB h.ok.dC hm (ah6 hm ae) (xI.2 j _ _ I Fj);have JC:=shut_list (xI.oI ok.kO);rw[lX] at JC
  have JD:db w (ca (ca A (fG B k ⟨b7 st.mem k,none,0⟩)) λ_=>none) (λ_=>none) ((args.map (shut ∘ bf st.tm)).set j (.J d)) (c.args.toList.map a.eval):=by
   refine⟨by rw[JC.1,kA],λi m v D G=>?_⟩
   by_cases kX:j=i
   ·subst kX;rw[Fj] at G
    cases G;have ik:j<(args.map (shut ∘ bf st.tm)).length:=by rw[<-JC.1];exact az
    rw[X3 ik] at D
    cases D;exact .J (qL.less λb ah=>(vV b).1 ah)
   ·rw[X4 kX] at D;exact JC.2 i m v D G
  unfold I6 at U
  split at U
  ·rename_i xx hg
   cases U;obtain⟨kx,h4⟩:=cG f _ _ _ hg;have ja:=h4 (ca A (fG B k ⟨b7 st.mem k,none,0⟩)) w (λ_=>none) _ (FA ok.dC) JD;unfold Oper.wp;rw[zF E kz kx,Q.dst];refine Calls.mono ja λe aI he=>?_;obtain⟨v,rfl,gx,mg⟩:=he;exact⟨_,h.put (ok.trans (.still ok.dC gx)) (.J (mg.less λb ah=>(vV b).2 ah)) Q.lt⟩
  ·rename_i dZ es hg
   cases U;obtain⟨kx,h4⟩:=cG f _ _ _ hg;have ja:=h4 (ca A (fG B k ⟨b7 st.mem k,none,0⟩)) w (λ_=>none) _ (FA ok.dC) JD;unfold Oper.wp;rw[zF E kz kx,Q.dst];refine Calls.mono ja λe aI he=>?_;obtain⟨v,rfl,gx,mg⟩:=he;exact⟨_,h.put (ok.trans (.still ok.dC gx)) (.J ((mg.less λb ah=>(vV b).2 ah).den λb ah=>ah.elim (λcu=>ok.dC.uo cu) (ok.dC.lt b))) Q.lt⟩
  ·cases U
 |pL j f args =>
  have aW:ih P kb own ar.dst ar.type ar.op=some i.op:=getD_some kQ (by rw[qP];simp);rw[qP] at aW aa;obtain⟨c,E,kz,lW⟩:=ahp aW;have xI:=uF h.qM lW;simp only[gM] at aa;obtain⟨k,g,sz,off,len,c4,cs,r,I,hm,ae,hg,rfl,rfl⟩:=XD aa;have bY:=aia h.ok.dC hm ae
  have aie:∀b,ca (λb=>A b\/∃j e,j≠k/\B j=some e/\e.dc=some b) (λj=>if j=k then B k else none) b->ca A B b:=λb ah=>by
   rcases ah with ⟨rZ,e,ay,mR⟩|aM|⟨rZ,e,_,ay,mR⟩
   ·by_cases dT:rZ=k
    ·simp only[aj dT] at ay;exact .inl ⟨k,e,ay,mR⟩
    ·simp only[aq dT] at ay;cases ay
   ·exact .inr aM
   ·exact .inl ⟨rZ,e,ay,mR⟩
  have az:j<(c.args.toList.map a.eval).length:=by
   rw[xI.1];exact (ef.1 I).1
  have Fj:=bL az
  have JD:db w (ca (λb=>A b\/∃j e,j≠k/\B j=some e/\e.dc=some b) (λj=>if j=k then B k else none)) (λj=>if j=k then B k else none) ((args.map λx=>shut (bf st.tm x)).set j (.ref k g sz off len)) (c.args.toList.map a.eval):=by
   refine⟨by rw[xI.1,kA,af,af],λi m v D G=>?_⟩
   by_cases kX:j=i
   ·subst kX
    have ik:j<(args.map λx=>shut (bf st.tm x)).length:=by
     have:=(ef.1 I).1
     simpa using this
    rw[X3 ik] at D
    cases D;have ad:=xI.2 j _ v I G
    cases ad with
    |ref he bw U=>exact .ref (by simp only[if_true];exact he) bw U
   ·rw[X4 kX,bb,dI] at D;obtain⟨y,ak,rfl⟩:=D;exact ah8 aie (xI.2 i (bf st.tm y) v (by rw[bb,ak];rfl) G)
  obtain⟨kx,h4⟩:=cG f _ _ _ hg;have ja:=h4 _ w _ _ bY JD;unfold Oper.wp;rw[zF E kz kx,Q.dst];refine Calls.mono ja λe aI he=>?_;obtain⟨v,xr,rfl,c1,ad⟩:=he;refine⟨_,h.put (aib h.ok.dC (λb ah=>?_) c1.aC) ?_ Q.lt⟩
  ·obtain⟨rZ,e,ay,mR⟩:=ah
   by_cases dT:rZ=k
   ·simp only[aj dT] at ay;exact⟨e,ay,mR⟩
   ·simp only[aq dT] at ay;cases ay
  ·cases ad with
   |J ad =>
    refine .J (ad.less λb ah=>?_);rcases ah with ⟨rZ,e,ay,mR⟩|aM
    ·by_cases dT:rZ=k
     ·rw[dT,gE] at ay;cases ay;cases mR
     ·rw[gu B _ dT] at ay;exact .inr (.inr ⟨rZ,e,dT,ay,mR⟩)
    ·exact .inr (.inl aM)
 |iY f args=>rw[qP] at aa;cases aa
 |pK neg x=>rw[qP] at aa;cases aa
 |_=>exact plain (by rw[qP] at aa ⊢;exact aa)
theorem X5 {α β:Type}{f:α->Option β}{xs:List α}{ys:List β}(h:xs.mapM f=some ys){i:Nat}{x:α}(I:xs[i]?=some x):∃y,ys[i]?=some y/\f x=some y:=by
 obtain⟨D,G⟩:=me h;have az:i<o ys:=by rw[D];exact (ef.1 I).1
 exact⟨_,bL az,G i x _ I (bL az)⟩
theorem NL (cG:oU P T){iv:Nat->Nat->Bool}(aW:ops.toList.mapM (xw P n kb own ops)=some l)(fr:∀st a w B,K st->gT n A ee gH a st w B->aT .normal a w):
  ∀(fuel:Nat) (ew:Array Bool) (rec:Rec) (st:bz) (a:Act) (w:World) (B:Lay),gT n A ee gH a st w B->B8 T iv ops l K fuel ew rec st->wpAny P .any ops aT fuel ew a w
 |0,_,_,_,_,_,_,aa,h=>⟨h.1,fr _ _ _ _ h.2 aa⟩
 |fuel+1,ew,rec,st,a,w,B,aa,h=>by
  refine⟨λau=>fr _ _ _ _ (h.1 au) aa,λi Q=>?_⟩;obtain⟨x,vU,dy,I,hex,R⟩:=h.2 i Q;obtain⟨_,ar,bM,_⟩:=mem_ready.1 Q;obtain⟨y,ak,NM⟩:=X5 aW (i:=i) (x:=ar) (by simpa using bM);rw[I] at ak
  cases ak;have uL:=Xv NM;unfold wpOp;simp only[bM];rcases hex with ⟨bw,rfl,rfl⟩|⟨bw,m,e,aif,_,rfl,rfl⟩
  ·rw[Nz aa uL.guard bw,aq (by simp)];exact NL cG aW fr fuel _ _ _ _ _ B (by rw[uL.dst];exact aa.put (.refl aa.ok.dC) .no uL.lt) R
  ·rw[Nz aa uL.guard bw,aj rfl];refine .inl (Oper.wp_mono (λil aI ⟨bB,h3⟩=>NL cG aW fr fuel _ _ _ _ _ bB h3 R) (aid cG aa uL aif))
theorem gT.drew {a:Act}{st:bz}(h:gT n A ee gH a st w B)(d:Nat):gT n A ee gH a st { w with drawn:=d } B:=by
 have aa:ea A w B { w with drawn:=d } B st.mem:=.still h.ok.dC ((Fr.refl _ _).drew d);exact⟨h.ok.trans aa,λs=>(h.tm s).oI aa.kO,h.sz,h.Fu⟩
theorem aih (cG:oU P T)(hm:P.follows .mixedOrders=true){id:Nat}{a:Act}{st:bz}(aW:ops.toList.mapM (xw P n kb own ops)=some l)(ae:BO ops l=true)(aa:gT n A ee gH a st w B)
  (h:sY T K 0 l (vJ [] l (nX ops.toList [])) (λ_=>none) st) (fr:∀st a w B,K st->gT n A ee gH a st w B->aT .normal a w):(Code.region id ops true).wp P aT a w:=by
 refine wp_region_any hm ?_
 have ax:(o l)=ops.size:=by
  rw[(me aW).1,Array.length_toList]
 have zH:=X0 (ah0 ae) ax (by unfold BO at ae;rw[eX] at ae;exact ae.1) l 0 (λ_=>none) st (Array.replicate ops.size false) rfl (by simp) (by simp) (λi Q=>by simp[Q]) (λ_ _=>rfl) h;rw[ax] at zH;exact NL cG aW fr ops.size _ _ _ _ _ B (aa.drew _) zH
theorem NN (cG:oU P T)(aW:ops.toList.mapM (xw P n kb own ops)=some l)(fr:∀st a w B,K st->gT n A ee gH a st w B->aT .normal a w):
  ∀(r:List cZ) (m:Nat) (st:bz) (a:Act) (w:World) (B:Lay),l.drop m=r->gT n A ee gH a st w B->uu T K r st->wpOps P ops aT (List.range' m (o r)) a w
 | [],_,_,_,_,_,_,aa,h=>fr _ _ _ _ h aa
 |x::r,m,st,a,w,B,U,aa,h=>by
  have I:l[m]?=some x:=by
   have:(l.drop m)[0]?=some x:=by rw[U];rfl
   simpa using this
  have xB:l.drop (m+1)=r:=by rw[<-B9,U];rfl
  have az:m<ops.size:=by
   have D:=(me aW).1;have G:=(ef.1 I).1;simp at D;omega
  have bM:ops[m]?=some ops[m]:=Array.getElem?_eq_getElem az;obtain⟨y,ak,NM⟩:=X5 aW (i:=m) (x:=ops[m]) (by simp);rw[I] at ak
  cases ak;have uL:=Xv NM;simp only[jN,List.range'_succ];rw[wpOps_cons];unfold wpOp;simp only[bM];simp only[uu] at h
  split at h
  ·cases h
  ·rename_i g bw;rw[Nz aa uL.guard bw]
   cases g with
   |true =>
    simp only[if_true] at h ⊢;exact .inl (Oper.wp_mono (λil aI ⟨dy,bB,R,h3⟩=>NN cG aW fr r (m+1) dy il aI bB xB h3 R) (ahv cG aa uL h))
   |false =>
    simp only[kc,if_false] at h ⊢;exact NN cG aW fr r (m+1) _ _ _ B xB (aa.put (.refl aa.ok.dC) .no uL.lt) (by rw[<-uL.dst];exact h)
end Go.Mini
namespace Go.Mini
open Go
variable {A:Nat->Prop} {w:World} {B:Lay} {mem:Mem}
theorem X6 (bY:eK A w B mem){aS:Nat->Prop}(fo:∀b,aS b->A b){k:Key}{e:ks}{b:Nat}(he:B k=some e)(ah:e.dc=some b):¬ aS b :=
 λh=>bY.sep b (fo b h) ⟨k,e,he,ah⟩
theorem snap (bY:eK A w B mem){aS:Nat->Prop}(fo:∀b,aS b->A b):∀(d:Nat) (m:O) (v:Value) (r:Data),da d mem m=some r->bA w (ca A B) B m v->Den w aS r v:=by
 have X7:∀(d:Data) (v:Value),bA w (ca A B) B (.J d) v->Den w aS d v:=λd v h=>by
  cases h with
  |J h=>exact h.less λb ah => .inr (fo b ah)
 have X8:∀v,bA w (ca A B) B .nil v->Den w aS (.X []) v:=λv h=>by
  cases h;exact .j7
 intro d
 induction d with
 |zero =>
  intro m v r h ad
  cases m<;>simp only[da,cz,reduceCtorEq] at h
  ·subst h;exact X7 _ _ ad
  ·subst h;exact X8 _ ad
 |succ d aA =>
  intro m v r h ad
  have lists:∀(cs:List O) (vs:List Value) (ds:List Data),cs.mapM (da d mem)=some ds->(o vs)=(o cs)->(∀(i:Nat) (x:O) (u:Value),cs[i]?=some x->vs[i]?=some u->bA w (ca A B) B x u) ->
    (o vs)=o ds/\∀(i:Nat) (x:Data) (u:Value),ds[i]?=some x->vs[i]?=some u->Den w aS x u:=by
   intro cs vs ds gh ax U;obtain⟨D,G⟩:=me gh;refine⟨by omega,λi x u I hu=>?_⟩
   have az:i<o cs:=by have:=(ef.1 I).1;omega
   have g8:=bL az;exact aA _ u x (G i _ x g8 I) (U i _ u g8 hu)
  cases m<;>simp only[da,cz,dI,reduceCtorEq] at h
  case J=>subst h;exact X7 _ _ ad
  case nil=>subst h;exact X8 _ ad
  case ref k g sz off len =>
   split at h
   ·rename_i c4 cs R
    split at h
    ·rename_i bw;subst bw
     split at h
     ·rename_i part NK;simp only[dI] at h;obtain⟨ds,gh,rfl⟩:=h;obtain⟨eW,rfl,rU⟩:=BT NK;obtain⟨D,G⟩:=me gh
      cases ad with
      |ref he hgle U =>
       obtain⟨e,fy,cb,aL,ah⟩:=bY.at_ R;rw[fy] at he
       cases he;obtain⟨a,cap,rfl,ag,aR,bs⟩:=U;rcases bs with bs|⟨b,rfl,b1⟩
       ·have:len=0:=by omega
        subst this;simp only[chunk];exact .j7
       ·obtain⟨cd,de⟩:=b1 cb.symm;obtain⟨vs,T,a6,a8,hle,cK⟩:=ah b cd;refine X2 a6 (X6 bY fo fy cd) (by omega) ag (by omega) (by omega) λi x u I hu=>?_;have az:i<o ds:=(ef.1 I).1;have hr:off+i<o cs:=by omega
        have g8:((cs.drop off).take (len*sz))[i]?=some cs[off+i]:=by
         rw[nq (by omega),ll,bL hr]
        refine aA _ u x (G i _ x g8 I) (cK.2 (off+i) _ u (bL hr) ?_);rw[nq hr,Array.getElem?_toList];exact hu
     ·cases h
    ·cases h
   ·cases h
  case ptr k g off =>
   split at h
   ·rename_i c4 cs R
    split at h
    ·rename_i bw;obtain⟨rfl,Np⟩:=bw;simp only[dI] at h;obtain⟨ds,gh,rfl⟩:=h;obtain⟨D,G⟩:=me gh
     cases ad with
     |ptr he hgle U =>
      obtain⟨e,fy,cb,aL,ah⟩:=bY.at_ R;rw[fy] at he
      cases he;obtain⟨b,rfl,b1⟩:=U;have cd:=b1 cb.symm;obtain⟨vs,T,a6,a8,hle,cK⟩:=ah b cd;rw[List.length_drop] at D;refine .ptr (λi=>vs.getD (off+i) undef) (Array.getElem?_eq_some_iff.1 a6).1 (X6 bY fo fy cd) (λi Q=>?_) λi x I=>?_
      ·rw[cell_of_row w b (off+i) vs T (0,0) a6];have:off+i<vs.size:=by omega
       simp[this]
      ·have az:i<o ds:=(ef.1 I).1;have hr:off+i<o cs:=by omega
       have FC:off+i<vs.size:=by omega
       have g8:(cs.drop off)[i]?=some cs[off+i]:=by
        rw[ll,bL hr]
       have hu:vs.getD (off+i) undef=vs[off+i]:=by simp[FC]
       rw[hu];refine aA _ _ x (G i _ x g8 I) (cK.2 (off+i) _ _ (bL hr) ?_);rw[nq hr,Array.getElem?_toList];exact Array.getElem?_eq_getElem FC
    ·cases h
   ·cases h
  case e5 f cs =>
   obtain⟨ds,gh,rfl⟩:=h
   cases ad with
   |e5 ax ae=>obtain⟨D,G⟩:=lists _ _ _ gh ax ae;exact .fn D G
  case agg cs =>
   obtain⟨ds,gh,rfl⟩:=h
   cases ad with
   |agg ax ae=>obtain⟨D,G⟩:=lists _ _ _ gh ax ae;exact .agg D G
  case cQ cs =>
   obtain⟨ds,gh,rfl⟩:=h
   cases ad with
   |cQ ax ae=>obtain⟨D,G⟩:=lists _ _ _ gh ax ae;exact .cQ D G
theorem bA.shift {aS kr:Nat->Prop}{bB:Lay}(fo:∀b,kr b->aS b)(R:∀k e,B k=some e->∃e',bB k=some e'/\(e'=e\/e.g<e'.g)){m:O}{v:Value}(h:bA w aS B m v):bA w kr bB m v:=by
 induction h with
 |J h=>exact .J (h.less fo)
 |nil=>exact .nil
 | @ref k g sz off len e v he bw ad =>
  obtain⟨e',fy,a6⟩:=R k e he;rcases a6 with rfl|a6
  ·exact .ref fy bw ad
  ·exact .ref fy (by omega) (ad.EH (by omega))
 | @ptr k g off e v he bw ad =>
  obtain⟨e',fy,a6⟩:=R k e he;rcases a6 with rfl|a6
  ·exact .ptr fy bw ad
  ·exact .ptr fy (by omega) (ad.EH (by omega))
 |e5 ax ae aA=>exact .e5 ax aA
 |agg ax ae aA=>exact .agg ax aA
 |cQ ax ae aA=>exact .cQ ax aA
 |no=>exact .no
 |undef=>exact .undef
theorem kill_shut (bY:eK A w B mem){k:Key}{g:Nat}{cs:List O}{e:ks}{b:Nat}(R:mem k=some (g,cs))(he:B k=some e)(ah:e.dc=some b):
  eK (λdO=>A dO\/dO=b) w (fG B k ⟨b7 mem k,none,0⟩) (kill mem k)/\(∀m v,bA w (ca A B) B m v->bA w (ca (λdO=>A dO\/dO=b) (fG B k ⟨b7 mem k,none,0⟩)) (fG B k ⟨b7 mem k,none,0⟩) m v):=by
 have bw:=zm bY k e he
 have fo:∀dO,ca (λdO=>A dO\/dO=b) (fG B k ⟨b7 mem k,none,0⟩) dO->ca A B dO:=λdO h=>by
  rcases h with ⟨j,aB,ay,I⟩|h|rfl
  ·by_cases dT:j=k
   ·subst dT;rw[gE] at ay;cases ay;cases I
   ·rw[gu B _ dT] at ay;exact .inl ⟨j,aB,ay,I⟩
  ·exact .inr h
  ·exact .inl ⟨k,e,he,ah⟩
 have aii:∀j aB,B j=some aB->∃e',fG B k ⟨b7 mem k,none,0⟩ j=some e'/\(e'=aB\/aB.g<e'.g):=λj aB ay=>by
  by_cases dT:j=k
  ·subst dT;rw[he] at ay
   cases ay;exact⟨_,gE _ _ _,.inr bw⟩
  ·exact⟨aB,by rw[gu B _ dT];exact ay,.inl rfl⟩
 have shift:∀m v,bA w (ca A B) B m v->bA w (ca (λdO=>A dO\/dO=b) (fG B k ⟨b7 mem k,none,0⟩)) (fG B k ⟨b7 mem k,none,0⟩) m v:=λm v h=>h.shift fo aii;refine⟨⟨λj ay=>?_,λj ka aw aB dO D G ag aR=>?_,λdO aM bM=>?_,λdO aM=>?_,λj c4 lj ay=>?_⟩,shift⟩
 ·by_cases dT:j=k
  ·subst dT;simp[kill,bI] at ay
  ·rw[gu B _ dT];simp only[kill,bI,dT,if_false] at ay;exact bY.xt j ay
 ·by_cases dT:j=k
  ·subst dT;rw[gE] at D;cases D;cases ag
  ·by_cases hjk':ka=k
   ·subst hjk';rw[gE] at G;cases G;cases aR
   ·rw[gu B _ dT] at D;rw[gu B _ hjk'] at G;exact bY.inj j ka aw aB dO D G ag aR
 ·obtain⟨j,aB,ay,I⟩:=bM
  by_cases dT:j=k
  ·subst dT;rw[gE] at ay;cases ay;cases I
  ·rw[gu B _ dT] at ay;rcases aM with aM|rfl
   ·exact bY.sep dO aM ⟨j,aB,ay,I⟩
   ·exact dT (bY.inj j k aB e dO ay he I ah)
 ·rcases aM with aM|rfl
  ·exact bY.lt dO aM
  ·exact bY.uo ⟨k,e,he,ah⟩
 ·by_cases dT:j=k
  ·subst dT;simp only[kill,bI,if_true,cz,eU] at ay;obtain⟨rfl,rfl⟩:=ay;exact⟨_,gE _ _ _,rfl,λ_=>rfl,λdO g6=>by cases g6⟩
  ·simp only[kill,bI,dT,if_false] at ay;obtain⟨aB,D,G,ag,aR⟩:=bY.dc j c4 lj ay;refine⟨aB,by rw[gu B _ dT];exact D,G,ag,λdO g6=>?_⟩
   obtain⟨vs,T,bs,b1,cd,de⟩:=aR dO g6;exact⟨vs,T,bs,b1,cd,λi m hm=>let ⟨v,ad,U⟩:=de i m hm;⟨v,ad,shift m v U⟩⟩
end Go.Mini
