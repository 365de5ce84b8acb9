/- A part of the proof. -/
import Derived.Calls
import Derived.Still
import Derived.Below
import Derived.Laws.World
import Derived.Laws.Sem
import Derived.Laws.Entries
import Derived.Laws.Rows
import GoSem.ClaimData
import Derived.Laws.CopyRow
import Derived.Laws.MakeOwn
import Derived.Laws.Append
import Derived.Laws.AppendOwn
import Derived.Laws.Strings
import Derived.Laws.Strings2
import Derived.Laws.StructEq
import Derived.Laws.Slices
import Derived.Laws.Cells
import Derived.Attr
set_option linter.unusedSimpArgs false
set_option linter.unusedVariables false
set_option maxRecDepth 100000
set_option maxHeartbeats 4000000
noncomputable section
open Bool renaming and_eq_true->e9,false_eq_true->k0,or_eq_true->x5
open List renaming all_eq_true->nq,contains_iff_mem->aec,drop_drop->F6,drop_eq_getElem_cons->iu,drop_eq_nil_of_le->jV,drop_set_of_lt->tx,drop_take->adb,eq_nil_of_length_eq_zero->tt,ext_getElem?->pM,flatten_cons->jP,foldl_cons->Bb,getD_eq_getElem?_getD->dZ,getElem?_append->FI,getElem?_append_left->qq,getElem?_append_right->ri,getElem?_cons_zero->zu,getElem?_drop->lB,getElem?_eq_getElem->bu,getElem?_eq_none->mx,getElem?_eq_some_iff->dP,getElem?_map->bh,getElem?_range->tn,getElem?_set_ne->aeh,getElem?_set_self->J6,getElem?_take->u9,getElem?_take_of_lt->pT,getElem?_toArray->adt,getElem_mem->np,getElem_of_mem->adj,length->D,length_append->fQ,length_cons->h8,length_map->ai,length_set->iY,length_take->gC,mapM_cons->lz,map_congr_left->m3,map_map->m4,mem_append->js,mem_cons_self->gF,mem_flatMap->x3,mem_of_getElem?->eg,mem_of_mem_take->FN,mem_zipIdx_iff_getElem?->ad8,range->dU,replicate->dD,replicate_succ->qs,take_append->Dj,take_of_length_le->dx
open Nat renaming add_assoc->qp,add_comm->zb,add_mul->qh,add_zero->nX,eq_or_lt_of_le->NX,eq_zero_or_pos->k6,le_mul_of_pos_right->JS,le_refl->bX,le_trans->eQ,lt_asymm->aeb,lt_of_lt_of_le->C7,lt_or_ge->ir,min_eq_left->oK,mul_le_mul_right->vd,one_mul->xM,sub_self->my,succ_mul->tp,testBit_or->ad3,zero_add->kH,zero_le->fs
open Option renaming bind_eq_bind->hy,bind_eq_some_iff->er,getD_some->ad5,isSome_iff_exists->adv,map_eq_some_iff->dY,map_none->adK,map_some->mB,pure_def->hi
open Option.some renaming inj->pN,injEq->cm
open Prod.mk renaming injEq->fo
namespace Go.Mini
theorem bw {α:Sort _}{a:α}:a=a:=_root_.id rfl
theorem ab {c:Prop}{h:Decidable c}(G:c){α:Sort _}{t e:α}:ite c t e=t:=if_pos G
theorem ag {c:Prop}{h:Decidable c}(G:¬c){α:Sort _}{t e:α}:ite c t e=e:=if_neg G
theorem lU {p:Prop}[inst:Decidable p](h:p):decide p=true:=decide_eq_true h
theorem mo {p:Prop}[i:Decidable p](h:¬p):decide p=false:=decide_eq_false h
theorem dj {p:Prop}[inst:Decidable p](h:p:=by omega):decide p=true:=decide_eq_true h
theorem c5 {p:Prop}[i:Decidable p](h:¬p:=by omega):decide p=false:=decide_eq_false h
open Go
abbrev Key:=Nat
inductive Data where
 |int (k:IntKind) (n:Int)
 |bool (b:Bool)
 |str (s:List UInt8)
 |X (es:List (List Data))
 |ptr (cs:List Data)
 |u0
 |fn (f:FuncId) (eP:List Data)
 |u1
 |agg (cs:List Data)
 |cH (vs:List Data)
 deriving Inhabited
inductive Q where
 |I (d:Data)
 |nil
 |ref (k:Key) (g sz off len:Nat)
 |ptr (k:Key) (g off:Nat)
 |fA (f:FuncId) (eP:List Q)
 |agg (cs:List Q)
 |cH (vs:List Q)
 |no
 |undef
 deriving Inhabited
inductive Den (w:World) (aX:Nat->Prop):Data->Value->Prop
 |int {k:IntKind} {n:Int}:Den w aX (.int k n) (.int k n)
 |bool {b:Bool}:Den w aX (.bool b) (.bool b)
 |str {s:List UInt8}:Den w aX (.str s) (.string ⟨s.toArray⟩)
 |lV {a:Option Addr} {c:Nat}:Den w aX (.X []) (.slice a 0 c)
 |X {es:List (List Data)} {b off c sz:Nat} (val:Nat->Value) (av:(D es)<=c) (hm:(D es)<=maxLen) (ae:b<w.heap.size) (fJ:¬ aX b) (e4:∀e∈es,D e=sz)
   (G:∀i,i<D es*sz->w.cell? ⟨b,off+i,none⟩=some (val i)) (Y:∀i d,es.flatten[i]?=some d->Den w aX d (val i)) :
   Den w aX (.X es) (.slice (some ⟨b,off,none⟩) (D es) c)
 |ptr {cs:List Data} {b off:Nat} (val:Nat->Value) (ae:b<w.heap.size) (fJ:¬ aX b)
   (G:∀i,i<(D cs)->w.cell? ⟨b,off+i,none⟩=some (val i)) (Y:∀i d,cs[i]?=some d->Den w aX d (val i)) :
   Den w aX (.ptr cs) (.pointer (some ⟨b,off,none⟩))
 |u0:Den w aX .u0 (.pointer none)
 |fn {f:FuncId} {eP:List Data} {vs:List Value} (av:(D vs)=D eP) (Y:∀(i:Nat) (d:Data) (v:Value),eP[i]?=some d->vs[i]?=some v->Den w aX d v) :
   Den w aX (.fn f eP) (.func (.func f) #[] vs.toArray)
 |u1:Den w aX .u1 .nilFunc
 |agg {cs:List Data} {vs:List Value} (av:(D vs)=D cs) (Y:∀(i:Nat) (d:Data) (v:Value),cs[i]?=some d->vs[i]?=some v->Den w aX d v) :
   Den w aX (.agg cs) (.agg vs.toArray)
 |cH {cs:List Data} {vs:List Value} (av:(D vs)=D cs) (Y:∀(i:Nat) (d:Data) (v:Value),cs[i]?=some d->vs[i]?=some v->Den w aX d v) :
   Den w aX (.cH cs) (.tuple vs.toArray)
theorem NG {es:List (List Data)}{sz:Nat}(h:∀e∈es,D e=sz):(D es.flatten)=D es*sz:=by
 induction es with
 |nil=>simp
 |cons e r aA =>
  have E:=h e (by simp);have H:=aA (λx O=>h x (by simp[O]));rw[jP,fQ,E,H,h8,qh,xM,zb]
theorem Den.q7 {w aQ:World}{aX mq:Nat->Prop}(U:w.heap.size<=aQ.heap.size)(h:∀b,b<w.heap.size->¬ aX b->aQ.heap[b]?=w.heap[b]?/\¬ mq b){d:Data}{v:Value}(Y:Den w aX d v):Den aQ mq d v:=by
 induction Y with
 |int=>exact .int
 |bool=>exact .bool
 |str=>exact .str
 |lV=>exact .lV
 | @X es b off c sz val av hm ae fJ e4 G Y aA =>
  obtain⟨E,H⟩:=h b ae fJ;exact .X val av hm (by omega) H e4 (λi J=>(World.cell?_of_block (a:=⟨b,off+i,none⟩) E).trans (G i J)) aA
 |u0=>exact .u0
 |u1=>exact .u1
 | @ptr cs b off val ae fJ G Y aA =>
  obtain⟨E,H⟩:=h b ae fJ;exact .ptr val (by omega) H (λi J=>(World.cell?_of_block (a:=⟨b,off+i,none⟩) E).trans (G i J)) aA
 |fn av Y aA=>exact .fn av aA
 |agg av Y aA=>exact .agg av aA
 |cH av Y aA=>exact .cH av aA
structure mr where
 g:Nat
 dz:Option Nat
 size:Nat
abbrev e5:=Key->Option mr
def r8 (B:e5)(b:Nat):Prop:=∃k e,B k=some e/\e.dz=some b
def Fq (e:mr)(g sz off len:Nat)(v:Value):Prop :=
 ∃a cap,v=.slice a len cap/\len<=cap/\cap<=maxLen/\(cap=0\/∃b,a=some ⟨b,off,none⟩/\(g=e.g->e.dz=some b/\off+cap*sz<=e.size))
def NH (e:mr)(g off:Nat)(v:Value):Prop:=∃b,v=.pointer (some ⟨b,off,none⟩)/\(g=e.g->e.dz=some b)
theorem Fq.Jh {e e':mr}{g sz off len:Nat}{v:Value}(h:Fq e g sz off len v)(av:g<e'.g):Fq e' g sz off len v:=by
 obtain⟨a,cap,E,H,af,aP⟩:=h;refine⟨a,cap,E,H,af,aP.imp id ?_⟩;rintro⟨b,bt,_⟩;exact⟨b,bt,λh=>by omega⟩
theorem NH.Jh {e e':mr}{g off:Nat}{v:Value}(h:NH e g off v)(av:g<e'.g):NH e' g off v:=by
 obtain⟨b,E,_⟩:=h;exact⟨b,E,λh=>by omega⟩
inductive bq (w:World) (aX:Nat->Prop) (B:e5):Q->Value->Prop
 |I {d:Data} {v:Value} (h:Den w aX d v):bq w aX B (.I d) v
 |nil {a:Option Addr}:bq w aX B .nil (.slice a 0 0)
 |ref {k:Key} {g sz off len:Nat} {e:mr} {v:Value} (he:B k=some e) (a9:g<=e.g) (ak:Fq e g sz off len v):bq w aX B (.ref k g sz off len) v
 |ptr {k:Key} {g off:Nat} {e:mr} {v:Value} (he:B k=some e) (a9:g<=e.g) (ak:NH e g off v):bq w aX B (.ptr k g off) v
 |fA {f:FuncId} {eP:List Q} {vs:List Value} (av:(D vs)=D eP) (Y:∀(i:Nat) (d:Q) (v:Value),eP[i]?=some d->vs[i]?=some v->bq w aX B d v) :
   bq w aX B (.fA f eP) (.func (.func f) #[] vs.toArray)
 |agg {cs:List Q} {vs:List Value} (av:(D vs)=D cs) (Y:∀(i:Nat) (d:Q) (v:Value),cs[i]?=some d->vs[i]?=some v->bq w aX B d v) :
   bq w aX B (.agg cs) (.agg vs.toArray)
 |cH {cs:List Q} {vs:List Value} (av:(D vs)=D cs) (Y:∀(i:Nat) (d:Q) (v:Value),cs[i]?=some d->vs[i]?=some v->bq w aX B d v) :
   bq w aX B (.cH cs) (.tuple vs.toArray)
 |no:bq w aX B .no undef
 |undef {v:Value}:bq w aX B .undef v
def cb (A:Nat->Prop)(B:e5)(b:Nat):Prop:=r8 B b\/A b
structure Trans (A:Nat->Prop) (w:World) (B:e5) (aQ:World) (bs:e5):Prop where
 size:w.heap.size<=aQ.heap.size
 Ji:∀b,b<w.heap.size->¬ cb A B b->aQ.heap[b]?=w.heap[b]?/\¬ r8 bs b
 key:∀k e,B k=some e->∃e',bs k=some e'/\(e'=e\/e.g<e'.g)
theorem Trans.refl (A:Nat->Prop)(w:World)(B:e5):Trans A w B w B :=
 ⟨bX _,λ_ _ h=>⟨rfl,λbL=>h (.inl bL)⟩,λ_ e he=>⟨e,he,.inl rfl⟩⟩
theorem Trans.trans {A:Nat->Prop}{w w1 ni:World}{B A1 C6:e5}(h:Trans A w B w1 A1)(cn:Trans A w1 A1 ni C6):Trans A w B ni C6:=by
 refine⟨eQ h.size cn.size,λb ae bL=>?_,λk e he=>?_⟩
 ·obtain⟨E,H⟩:=h.Ji b ae bL;obtain⟨af,aP⟩:=cn.Ji b (C7 ae h.size) (λO=>O.elim H λaM=>bL (.inr aM));exact⟨af.trans E,aP⟩
 ·obtain⟨ay,aon,aT⟩:=h.key k e he;obtain⟨aB,fq,pa⟩:=cn.key k ay aon;refine⟨aB,fq,?_⟩;rcases aT with rfl|aT<;>rcases pa with rfl|pa
  ·exact .inl rfl
  ·exact .inr pa
  ·exact .inr aT
  ·exact .inr (Nat.lt_trans aT pa)
theorem Den.trans {A:Nat->Prop}{w aQ:World}{B bs:e5}(t:Trans A w B aQ bs){d:Data}{v:Value}(h:Den w (cb A B) d v):Den aQ (cb A bs) d v :=
 h.q7 t.size λb ae bL=>⟨(t.Ji b ae bL).1,λO=>O.elim (t.Ji b ae bL).2 λaM=>bL (.inr aM)⟩
theorem bq.q7 {A:Nat->Prop}{w aQ:World}{B bs:e5}(t:Trans A w B aQ bs){m:Q}{v:Value}(h:bq w (cb A B) B m v):bq aQ (cb A bs) bs m v:=by
 induction h with
 |I h=>exact .I (h.trans t)
 |nil=>exact .nil
 | @ref k g sz off len e v he a9 ak =>
  obtain⟨e',gz,aT⟩:=t.key k e he;rcases aT with rfl|aT
  ·exact .ref gz a9 ak
  ·exact .ref gz (by omega) (ak.Jh (by omega))
 | @ptr k g off e v he a9 ak =>
  obtain⟨e',gz,aT⟩:=t.key k e he;rcases aT with rfl|aT
  ·exact .ptr gz a9 ak
  ·exact .ptr gz (by omega) (ak.Jh (by omega))
 |fA av Y aA=>exact .fA av aA
 |agg av Y aA=>exact .agg av aA
 |cH av Y aA=>exact .cH av aA
 |no=>exact .no
 |undef=>exact .undef
abbrev Mem:=Key->Option (Nat×List Q)
def emp:Mem:=λ_=>none
def a1 (m:Mem)(k:Key)(g:Nat)(cs:List Q):Mem:=λj=>if j=k then some (g,cs) else m j
def bY (m:Mem)(k:Key):Nat:=match m k with
 |none=>0
 |some (g,_)=>g+1
structure fr (A:Nat->Prop) (w:World) (B:e5) (mem:Mem):Prop where
 A2:∀k,mem k=none->B k=none
 inj:∀k k' e e' b,B k=some e->B k'=some e'->e.dz=some b->e'.dz=some b->k=k'
 sep:∀b,A b->¬ r8 B b
 lt:∀b,A b->b<w.heap.size
 dz:∀k g cs,mem k=some (g,cs)->∃e,B k=some e/\e.g=g/\(e.dz=none->cs=[]) /\
  ∀b,e.dz=some b->∃vs T,w.heap[b]?=some (.cells vs T (0,0))/\vs.size=e.size/\D cs<=vs.size /\
   ∀(i:Nat) (m:Q),cs[i]?=some m->∃v,vs[i]?=some v/\bq w (cb A B) B m v
theorem fr.xN {A:Nat->Prop}{w:World}{B:e5}{mem:Mem}(h:fr A w B mem){b:Nat}(ae:r8 B b):b<w.heap.size:=by
 obtain⟨k,e,he,ae⟩:=ae
 cases hm:mem k with
 |none=>rw[h.A2 k hm] at he;cases he
 |some x =>
  obtain⟨g,cs⟩:=x;obtain⟨e',gz,_,_,aT⟩:=h.dz k g cs hm;rw[gz] at he
  cases he;obtain⟨vs,T,ak,_⟩:=aT b ae;exact (Array.getElem?_eq_some_iff.1 ak).1
structure Fr (u2:Nat->Prop) (ew w:World):Prop where
 os:w.os=ew.os
 tape:w.tape=ew.tape
 output:w.output=ew.output
 size:ew.heap.size<=w.heap.size
 block:∀g,g<ew.heap.size->¬ u2 g->w.heap[g]?=ew.heap[g]?
theorem Fr.refl (u2:Nat->Prop)(w:World):Fr u2 w w:=⟨rfl,rfl,rfl,bX _,λ_ _ _=>rfl⟩
theorem Fr.drew {u2:Nat->Prop}{ew w:World}(h:Fr u2 ew w)(n:Nat):Fr u2 ew { w with drawn:=n }:=⟨h.os,h.tape,h.output,h.size,h.block⟩
theorem Fr.alloc {u2:Nat->Prop}{ew w:World}(h:Fr u2 ew w)(o:Obj):Fr u2 ew (w.alloc o) :=
 ⟨h.os,h.tape,h.output,by simp;have:=h.size;omega,λg a9 fJ=>(RowKit.Below.heap_alloc w o g (by have:=h.size;omega)).trans (h.block g a9 fJ)⟩
theorem Fr.below {ew w:World}(h:Fr (λ_=>False) ew w):RowKit.Below ew.heap.size ew w:=⟨h.os,h.tape,h.output,h.size,λg a9=>h.block g a9 id⟩
inductive bS where
 |t (s:Nat)
 |c (m:Q)
 deriving Inhabited
inductive kp where
 |cp (x:bS)
 |pick (c a b:bS)
 |alloc (k:Key) (z:List Q)
 |box (k:Key) (x:bS)
 |build (z:List Q) (parts:List (Nat×Nat×bS))
 |fc (k:Key) (own:Bool) (z:List Q) (sz len:Nat) (parts:List (Nat×Nat×bS))
 |load (n:Nat) (dS:Bool) (x:bS)
 |store (n:Nat) (x v:bS)
 |bin (op:BinOp) (x y:bS)
 |beq (neg:Bool) (x y:bS)
 |eqs (neg:Bool) (gZ:List Nat) (x y:bS)
 |q8 (neg:Bool) (x:bS)
 |un (op:UnOp) (x:bS)
 |conv (k:IntKind) (x:bS)
 |r9 (x:bS)
 |mu (k:Key) (z:List Q) (bytes:Nat) (len cap:bS)
 |ef (off:Nat) (x:bS)
 |C8 (off n:Nat) (dS:Bool) (x:bS)
 |kE (sz:Nat) (x i:bS)
 |pb (len sz:Nat) (x i:bS)
 |idxs (x i:bS)
 |oC (sz:Nat) (x:bS) (cx J kq:Option bS)
 |th (len sz:Nat) (x:bS) (cx J kq:Option bS)
 |C9 (x:bS) (cx J:Option bS)
 |ext (i:Nat) (x:bS)
 |len (x:bS)
 |lens (x:bS)
 |app (k:Key) (z:List Q) (bytes:Nat) (s x:bS)
 |sa (sz:Nat) (d x:bS)
 |iK (kq:Bool) (x y:bS)
 |call (f:FuncId) (args:List bS)
 |oD (k:Key) (sz:Nat) (f:FuncId) (args:List bS)
 |jQ (f:bS) (args:List bS)
 |mv (cx:Nat) (f:FuncId) (args:List bS)
 |ti (j:Nat) (f:FuncId) (args:List bS)
 |sb (j:Nat) (f:FuncId) (args:List bS)
 |sc (z:List Q) (x:bS)
 |pJ (f:FuncId) (eP:List bS)
 |bad
 deriving Inhabited
structure c6 where
 dst:Option Nat
 g:Option (Nat×Bool)
 op:kp
 deriving Inhabited
inductive NI where
 |oE (s:Nat) (k:Key) (sz:Nat)
 |NJ (x:bS) (i:Nat) (k:Key) (sz:Nat)
 |freeze (s:Nat)
 |NK (x:bS) (i:Nat)
 |move
 |many
 deriving Inhabited
inductive eA where
 |skip
 |ops (l:List c6)
 |nj (l:List c6) (c:List (List Nat))
 |seq (a b:eA)
 |cond (c:bS) (a b:eA)
 |block (id:Nat) (c:eA)
 |loop (c:eA)
 |exit (id:Nat)
 |ret
 |ghost (g:NI) (c:eA)
 deriving Inhabited
inductive oF where
 |t (s:Nat)
 |cell (s n:Nat) (dS:Bool)
 deriving Inhabited
structure bT where
 n:Nat
 aoo:Nat
 res:List oF
 body:eA
 deriving Inhabited
structure ba where
 tm:Nat->Q
 mem:Mem
def e6 (tm:Nat->Q)(s:Nat)(m:Q):Nat->Q:=λt=>if t=s then m else tm t
def put (tm:Nat->Q):Option Nat->Q->Nat->Q
 |some s,m=>e6 tm s m
 |none,_=>tm
@[simp] theorem e7 (tm:Nat->Q)(s:Nat)(m:Q)(t:Nat):e6 tm s m t=if t=s then m else tm t:=rfl
def a3 (tm:Nat->Q):bS->Q
 |.t s=>tm s
 |.c m=>m
def Q.cells:Q->List Q
 |.agg cs=>cs
 |.I (.agg ds)=>ds.map .I
 |m=>[m]
def Q.known:Q->Bool
 |.undef=>false
 |_=>true
def Q.one:Q->Bool
 |.I (.agg _)=>false
 |.I (.cH _)=>false
 |.I _=>true
 |.nil=>true
 |.ref ..=>true
 |.ptr ..=>true
 |.fA ..=>true
 |_=>false
def q9 (dS:Bool)(cs:List Q):Option Q :=
 if dS=true then some (.agg cs) else match cs with
  | [m]=>some m
  |_=>none
def cut (cs:List Q)(off n:Nat):Option (List Q) :=
 if off+n<=(D cs) then some ((cs.drop off).take n) else none
def kY (cs:List Q)(off:Nat)(new:List Q):List Q:=cs.take off++new++cs.drop (off+D new)
def kF (a3:bS->Q)(cells:List Q):List (Nat×Nat×bS)->Option (List Q)
 | []=>some cells
 |(off,size,x)::rest =>
  if (a3 x).known=true/\(a3 x).cells.length=size/\off+size<=(D cells) then kF a3 (kY cells off (a3 x).cells) rest else none
def u3:Q->Option Data
 |.I d=>some d
 |.nil=>some (.X [])
 |_=>none
def chunk (sz:Nat):Nat->List Data->List (List Data)
 |0,_=>[]
 |n+1,l=>l.take sz::chunk sz n (l.drop sz)
def NL (op:BinOp)(k:IntKind)(a b:Int):Option Data :=
 match op with
 |.add=>some (.int k (k.wrap (a+b)))
 |.sub=>some (.int k (k.wrap (a-b)))
 |.mul=>some (.int k (k.wrap (a*b)))
 |.quo=>if b=0 then none else some (.int k (k.wrap (a.tdiv b)))
 |.rem=>if b=0 then none else some (.int k (a.tmod b))
 |.and=>some (.int k (bits .and k a b))
 |.or=>some (.int k (bits .or k a b))
 |.xor=>some (.int k (bits .xor k a b))
 |.andNot=>some (.int k (bits .andNot k a b))
 |.eql=>some (.bool (a==b))
 |.neq=>some (.bool (a != b))
 |.lss=>some (.bool (a<b))
 |.leq=>some (.bool (a<=b))
 |.gtr=>some (.bool (a>b))
 |.geq=>some (.bool (a>=b))
 |_=>none
def NM (op:BinOp)(k:IntKind)(a b:Int):Option Data :=
 if b<0 then none else match op with
 |.shl=>some (.int k (k.wrap (a*2^(min b.toNat k.bits))))
 |.shr=>some (.int k (a.fdiv (2^(min b.toNat k.bits))))
 |_=>none
def NN (op:BinOp)(a b:List UInt8):Option Data :=
 match op with
 |.add=>if (D a)+D b<=maxLen then some (.str (a++b)) else none
 |.eql=>some (.bool (a==b))
 |.neq=>some (.bool (!(a==b)))
 |.lss=>some (.bool (Op.bytesLess a b))
 |.leq=>some (.bool (Op.bytesLess a b||a==b))
 |.gtr=>some (.bool (!(Op.bytesLess a b||a==b)))
 |.geq=>some (.bool (!Op.bytesLess a b))
 |_=>none
def Fs:BinOp->Bool
 |.shl=>true
 |.shr=>true
 |_=>false
def Jj (op:BinOp)(x y:Q):Option Q :=
 match x,y with
 |.I (.int k a),.I (.int k' b)=>if Fs op=true then (NM op k a b).map .I else if k=k' then (NL op k a b).map .I else none
 |.I (.str a),.I (.str b)=>(NN op a b).map .I
 |_,_=>none
def Jk (neg:Bool):Q->Q->Option Q
 |.I (.bool a),.I (.bool b)=>some (.I (.bool (neg != (a==b))))
 |_,_=>none
def NO:Nat->Q->Q->Option Bool
 |0,.I (.bool a),.I (.bool b)=>some (a==b)
 |1,.I (.int k a),.I (.int k' b)=>if k=k' then some (a==b) else none
 |2,.I (.str a),.I (.str b)=>some (a==b)
 |_,_,_=>none
def A5:List Nat->List Q->List Q->Option Bool
 | [],[],[]=>some true
 |k::gZ,a::x,b::y=>match NO k a b,A5 gZ x y with
  |some c,some d=>some (c&&d)
  |_,_=>none
 |_,_,_=>none
def Jl (op:UnOp)(x:Q):Option Q :=
 match op,x with
 |.neg,.I (.int k n)=>some (.I (.int k (k.wrap (0-n))))
 |.xor,.I (.int k n)=>some (.I (.int k (bits .xor k (if k.signed then -1 else k.max) n)))
 |.not,.I (.bool b)=>some (.I (.bool !b))
 |_,_=>none
def idx:Q->Option Nat
 |.I (.int _ n)=>if 0<=n then some n.toNat else none
 |_=>none
def jR (d:Nat):Option Q->Option Nat
 |none=>some d
 |some x=>idx x
def qi:Q->Option Nat
 |.I (.X es)=>some (D es)
 |.nil=>some 0
 |.ref _ _ _ _ n=>some n
 |_=>none
def qj (mem:Mem)(n:Nat)(dS:Bool):Q->Option Q
 |.ptr k g off=>match mem k with
  |some (c0,cs)=>if c0=g then (cut cs off n).bind (q9 dS) else none
  |none=>none
 |.I (.ptr ds)=>(cut (ds.map .I) 0 n).bind (q9 dS)
 |_=>none
def zc:Q->Option Nat
 |.I (.str s)=>some (D s)
 |_=>none
def Ft:Q->Q->Q->Option Q
 |.I (.bool t),a,b=>some (if t=true then a else b)
 |_,_,_=>none
def Jm (z:List Q)(sz len:Nat)(x:Option (List Q)):Option Q :=
 if (D z)=len*sz then (match x with
  |some cs=>(cs.mapM u3).map λds => .I (.X (chunk sz len ds))
  |none=>none) else none
def Jn:Q->Option (List Q)
 |.agg cs=>some cs
 |.I (.agg ds)=>some (ds.map .I)
 |_=>none
def Jo (neg:Bool)(gZ:List Nat)(a b:Q):Option Q:=match Jn a,Jn b with
 |some x,some y=>(match A5 gZ x y with
  |some c=>some (.I (.bool (neg != c)))
  |none=>none)
 |_,_=>none
def Jp (k:IntKind):Q->Option Q
 |.I (.int _ n)=>some (.I (.int k (k.wrap n)))
 |_=>none
def Jq:Q->Option Q
 |.ptr k g off=>some (.ptr k g off)
 |.I (.ptr ds)=>some (.I (.ptr ds))
 |_=>none
def Jr (off:Nat):Q->Option Q
 |.ptr k g o=>some (.ptr k g (o+off))
 |.I (.ptr ds)=>if off<=(D ds) then some (.I (.ptr (ds.drop off))) else none
 |_=>none
def Js (off n:Nat)(dS:Bool):Q->Option Q
 |.agg cs=>(cut cs off n).bind (q9 dS)
 |.I (.agg ds)=>(cut (ds.map .I) off n).bind (q9 dS)
 |_=>none
def zd (sz n:Nat):Q->Option Q
 |.ref k g ev off len=>if n<len/\ev=sz then some (.ptr k g (off+n*sz)) else none
 |.I (.X es)=>match es[n]? with
  |some e=>if (D e)=sz then some (.I (.ptr e)) else none
  |none=>none
 |_=>none
def Jt (len sz n:Nat):Q->Option Q
 |.ptr k g off=>if n<len then some (.ptr k g (off+n*sz)) else none
 |.I (.ptr ds)=>if n<len/\n*sz<=(D ds) then some (.I (.ptr (ds.drop (n*sz)))) else none
 |_=>none
def Ju (n:Nat):Q->Option Q
 |.I (.str s)=>(s[n]?).map λb => .I (.int .u8 b.toNat)
 |_=>none
def nT (sz:Nat)(es:List (List Data)):Bool:=es.all λe=>D e==sz
def Jv (sz l h:Nat):Q->Option Q
 |.I (.X es)=>if l<=h/\h<=D es/\nT sz es=true then some (.I (.X ((es.take h).drop l))) else none
 |.nil=>if l=0/\h=0 then some .nil else none
 |.ref k g ev off len=>if ev=sz/\l<=h/\h<=len then some (.ref k g sz (off+l*sz) (h-l)) else none
 |_=>none
def Jw (sz l h m:Nat):Q->Option Q
 |.I (.X es)=>if l<=h/\h<=m/\m<=D es/\nT sz es=true then (if m=l then some .nil else some (.I (.X ((es.take h).drop l)))) else none
 |.nil=>if l=0/\h=0/\m=0 then some .nil else none
 |.ref _ _ _ _ len=>if l<=h/\h<=m/\m<=len/\m=l then some .nil else none
 |_=>none
def Jx (l h:Nat):Q->Option Q
 |.I (.str s)=>if l<=h/\h<=(D s) then some (.I (.str ((s.take h).drop l))) else none
 |_=>none
def Jy (i:Nat):Q->Option Q
 |.cH vs=>vs[i]?
 |.I (.cH ds)=>(ds[i]?).map .I
 |_=>none
def Jz (kq:Bool):Q->Q->Option Q
 |.I (.int k a),.I (.int k' b)=>if k=k' then some (.I (.int k (if kq=true then (if b>a then b else a) else (if b<a then b else a)))) else none
 |_,_=>none
def h9 (x:Option Nat)(f:Nat->Option Q):Option Q:=match x with
 |some n=>f n
 |none=>none
def kZ (tm:Nat->Q):kp->Option Q
 |.cp x=>some (a3 tm x)
 |.pick c a b=>Ft (a3 tm c) (a3 tm a) (a3 tm b)
 |.build z parts=>(kF (a3 tm) z parts).map .agg
 |.fc _ false z sz len parts=>Jm z sz len (kF (a3 tm) z parts)
 |.bin op x y=>Jj op (a3 tm x) (a3 tm y)
 |.beq neg x y=>Jk neg (a3 tm x) (a3 tm y)
 |.eqs neg gZ x y=>Jo neg gZ (a3 tm x) (a3 tm y)
 |.un op x=>Jl op (a3 tm x)
 |.conv k x=>Jp k (a3 tm x)
 |.r9 x=>Jq (a3 tm x)
 |.ef off x=>Jr off (a3 tm x)
 |.C8 off n dS x=>Js off n dS (a3 tm x)
 |.kE sz x i=>h9 (idx (a3 tm i)) λn=>zd sz n (a3 tm x)
 |.pb len sz x i=>h9 (idx (a3 tm i)) λn=>Jt len sz n (a3 tm x)
 |.idxs x i=>h9 (idx (a3 tm i)) λn=>Ju n (a3 tm x)
 |.oC sz x cx J none=>h9 (jR 0 (cx.map (a3 tm))) λl=>h9 (qi (a3 tm x)) λlen=>h9 (jR len (J.map (a3 tm))) λh=>Jv sz l h (a3 tm x)
 |.oC sz x cx (some J) (some kq)=>h9 (jR 0 (cx.map (a3 tm))) λl=>h9 (idx (a3 tm J)) λh=>h9 (idx (a3 tm kq)) λm=>Jw sz l h m (a3 tm x)
 |.C9 x cx J=>h9 (jR 0 (cx.map (a3 tm))) λl=>h9 (zc (a3 tm x)) λlen=>h9 (jR len (J.map (a3 tm))) λh=>Jx l h (a3 tm x)
 |.ext i x=>Jy i (a3 tm x)
 |.len x=>h9 (qi (a3 tm x)) λn=>some (.I (.int .i64 n))
 |.lens x=>h9 (zc (a3 tm x)) λn=>some (.I (.int .i64 n))
 |.iK kq x y=>Jz kq (a3 tm x) (a3 tm y)
 |.pJ f eP=>some (.fA f (eP.map (a3 tm)))
 |_=>none
def S9 (k:Key)(g off len sz l h:Nat):Option (Nat×List Q)->Option Q
 |some (c0,cs)=>if c0=g/\l<=h/\h<=len/\off+len*sz<=(D cs) then some (.ref k g sz (off+l*sz) (h-l)) else none
 |none=>none
def A6 (mem:Mem)(len sz l h:Nat):Q->Option Q
 |.ptr k g off=>S9 k g off len sz l h (mem k)
 |_=>none
def qk (mem:Mem)(sz:Nat):Q->Option (Nat×List Q)
 |.I (.X es)=>if nT sz es=true then some (D es,es.flatten.map Q.I) else none
 |.nil=>some (0,[])
 |.ref k g ev off len=>if ev=sz then (match mem k with
  |some (c0,cs)=>if c0=g then (cut cs off (len*sz)).map λcs=>(len,cs) else none
  |none=>none) else none
 |_=>none
abbrev Out:=Option (Q×Option (Key×Nat×List Q))
def jl (x:Option Q):Out:=match x with
 |some m=>some (m,none)
 |none=>none
def Fu (k:Key)(g:Nat)(z:List Q)(sz len:Nat)(x:Option (List Q)):Out :=
 if (D z)=len*sz then (match x with
  |some cs=>some (.ref k g sz 0 len,some (k,g,cs))
  |none=>none) else none
def Fv (k:Key)(g:Nat)(z:List Q)(bytes:Nat)(n c:Nat):Out :=
 if n=c/\bytes*n<=140737488355328/\n<=maxLen then some (.ref k g (D z) 0 n,some (k,g,(dD n z).flatten)) else none
def JA (x y:Option Nat)(f:Nat->Nat->Out):Out:=match x,y with
 |some n,some m=>f n m
 |_,_=>none
def JB (n:Nat)(k:Key)(g off:Nat)(v:List Q)(x:Option (Nat×List Q)):Out:=match x with
 |some (c0,cs)=>if c0=g/\D v=n/\off+n<=D cs/\v.all Q.one=true then some (.no,some (k,g,kY cs off v)) else none
 |none=>none
def xO (mem:Mem)(n:Nat):Q->List Q->Out
 |.ptr k g off,v=>JB n k g off v (mem k)
 |_,_=>none
def mw (k:Key)(g:Nat)(sz len bytes:Nat)(m:Nat)(new:List Q)(x:Option (Nat×List Q)):Out:=match x with
 |some (c0,cs)=>if c0=g/\len*sz<=D cs/\(len+m)*bytes<=140737488355328/\len+m<=maxLen/\new.all Q.one=true
   then some (.ref k (g+1) sz 0 (len+m),some (k,g+1,cs.take (len*sz)++new)) else none
 |none=>none
def ra (mem:Mem)(k:Key)(z:List Q)(bytes:Nat):Q->Option (Nat×List Q)->Out
 |.nil,some (m,new)=>if m*bytes<=140737488355328/\m<=maxLen/\new.all Q.one=true then some (.ref k (bY mem k) (D z) 0 m,some (k,bY mem k,new)) else none
 |.ref k' g ev off len,some (m,new)=>if ev=D z/\off=0 then mw k' g ev len bytes m new (mem k') else none
 |_,_=>none
def A7 (k:Key)(g sz off len:Nat)(m:Nat)(new:List Q)(x:Option (Nat×List Q)):Out:=match x with
 |some (c0,cs)=>if c0=g/\off+len*sz<=D cs/\new.all Q.one=true then some (.I (.int .i64 ((min m len:Nat):Int)),some (k,g,kY cs off (new.take (min m len*sz)))) else none
 |none=>none
def wq (mem:Mem)(sz:Nat):Q->Option (Nat×List Q)->Out
 |.ref k g ev off len,some (m,new)=>if ev=sz then A7 k g sz off len m new (mem k) else none
 |_,_=>none
def NP (z:List Q)(k:Key)(g off len:Nat)(x:Option (Nat×List Q)):Out:=match x with
 |some (c0,cs)=>if c0=g/\off+len*D z<=D cs/\z.all Q.one=true then some (.cH [],some (k,g,kY cs off (dD len z).flatten)) else none
 |none=>none
def xP (mem:Mem)(z:List Q):Q->Out
 |.ref k g sz off len=>if sz=(D z) then NP z k g off len (mem k) else none
 |_=>none
def cl (mem:Mem)(tm:Nat->Q):kp->Out
 |.alloc k z=>some (.ptr k (bY mem k) 0,some (k,bY mem k,z))
 |.box k x=>if (a3 tm x).known=true then some (.ptr k (bY mem k) 0,some (k,bY mem k,(a3 tm x).cells)) else none
 |.fc k true z sz len parts=>Fu k (bY mem k) z sz len (kF (a3 tm) z parts)
 |.mu k z bytes len cap=>JA (idx (a3 tm len)) (idx (a3 tm cap)) (Fv k (bY mem k) z bytes)
 |.load n dS x=>jl (qj mem n dS (a3 tm x))
 |.th len sz x cx J none=>jl (h9 (jR 0 (cx.map (a3 tm))) λl=>h9 (jR len (J.map (a3 tm))) λh=>A6 mem len sz l h (a3 tm x))
 |.store n x v=>xO mem n (a3 tm x) (a3 tm v).cells
 |.app k z bytes s x=>ra mem k z bytes (a3 tm s) (qk mem (D z) (a3 tm x))
 |.sa sz d x=>wq mem sz (a3 tm d) (qk mem sz (a3 tm x))
 |.sc z x=>xP mem z (a3 tm x)
 |op=>jl (kZ tm op)
inductive g8 where
 |same (r:Data)
 |own (sz:Nat) (es:List (List Data))
 |rel (bV:Q->Mem->Prop)
 |e6 (r:Data) (k:Key) (g i:Nat) (c:Q)
 |ze (r:Data) (k:Key)
abbrev bb:=FuncId->List Q->Mem->Option g8
def iq (mem:Mem):Option (Key×Nat×List Q)->Mem
 |none=>mem
 |some (k,g,cs)=>a1 mem k g cs
def rb (mem:Mem)(k:Key):List Q:=match mem k with
 |some (_,cs)=>cs
 |none=>[]
def u4 (T:bb)(K:ba->Prop)(st:ba)(dst:Option Nat)(f:FuncId)(args:List Q):Prop :=
 match T f args st.mem with
 |some (.same r)=>K ⟨put st.tm dst (.I r),st.mem⟩
 |some (.own _ es)=>K ⟨put st.tm dst (.I (.X es)),st.mem⟩
 |some (.rel bV)=>∀r mem',bV r mem'->K ⟨put st.tm dst r,mem'⟩
 |some (.e6 r k g i c)=>K ⟨put st.tm dst (.I r),a1 st.mem k g ((rb st.mem k).set i c)⟩
 |some (.ze r k)=>K ⟨put st.tm dst (.I r),a1 st.mem k (bY st.mem k) []⟩
 |none=>False
def Da:Q->Option Bool
 |.I (.X es)=>some (!es.isEmpty)
 |.nil=>some false
 |.ref _ _ _ _ len=>some (decide (0<len))
 |_=>none
def gA (T:bb)(K:ba->Prop)(i:c6)(st:ba):Prop :=
 match i.op with
 |.call f args=>u4 T K st i.dst f (args.map (a3 st.tm))
 |.oD k sz f args=>match T f (args.map (a3 st.tm)) st.mem with
  |some (.own ev es)=>if ev=sz then K ⟨put st.tm i.dst (.ref k (bY st.mem k) sz 0 (D es)),a1 st.mem k (bY st.mem k) (es.flatten.map .I)⟩ else False
  |_=>False
 |.jQ f args=>match a3 st.tm f with
  |.fA g eP=>u4 T K st i.dst g (args.map (a3 st.tm)++eP)
  |.I (.fn g ds)=>u4 T K st i.dst g (args.map (a3 st.tm)++ds.map .I)
  |_=>False
 |.q8 neg x=>match Da (a3 st.tm x) with
  |some full=>∀b:Bool,(full=true->b=false)->K ⟨put st.tm i.dst (.I (.bool (neg != b))),st.mem⟩
  |none=>False
 |op=>match cl st.mem st.tm op with
  |some (m,e)=>K ⟨put st.tm i.dst m,iq st.mem e⟩
  |none=>False
def pc (tm:Nat->Q):Option (Nat×Bool)->Option Bool
 |none=>some true
 |some (s,b)=>match tm s with
  |.I (.bool t)=>some (t==b)
  |.no=>some false
  |_=>none
def xQ (T:bb)(K:ba->Prop):List c6->ba->Prop
 | [],st=>K st
 |i::r,st=>match pc st.tm i.g with
  |none=>False
  |some g=>if g=true then gA T (xQ T K r) i st else xQ T K r ⟨put st.tm i.dst .no,st.mem⟩
def keyOf:Q->List Key
 |.ref k ..=>[k]
 |.ptr k ..=>[k]
 |_=>[]
inductive nk where
 |hF (k:Key)
 |rd (k:Key) (a b:Nat)
 |wr (k:Key) (i:Nat)
def nk.key:nk->Key
 |.hF k=>k
 |.rd k _ _=>k
 |.wr k _=>k
def re:nk->nk->Bool
 |.hF k,.hF k' => !(k==k')
 |.hF k,.rd k' _ _ => !(k==k')
 |.rd k _ _,.hF k' => !(k==k')
 |.rd _ _ _,.rd _ _ _=>true
 |.rd k a b,.wr k' i => !(k==k')||(decide (i<a)||decide (b<=i))
 |.wr k' i,.rd k a b => !(k==k')||(decide (i<a)||decide (b<=i))
 |.wr _ _,.wr _ _=>false
 |.hF _,.wr _ _=>false
 |.wr _ _,.hF _=>false
def Fw (n:Nat):Q->List nk
 |.ref k ..=>[.hF k]
 |.ptr k _ off=>[.rd k off (off+n)]
 |_=>[]
def JC (cx:Nat):List Q->List nk
 |.ptr k _ off::_=>[.wr k (off+cx)]
 |_=>[]
def wu:Option Q->List nk
 |some (.ref k ..)=>[.hF k]
 |_=>[]
def dE (tm:Nat->Q):kp->List nk
 |.load n _ x=>Fw n (a3 tm x)
 |.th _ _ x _ _ _=>(keyOf (a3 tm x)).map .hF
 |.store _ x _=>(keyOf (a3 tm x)).map .hF
 |.alloc k _=>[.hF k]
 |.box k _=>[.hF k]
 |.fc k true _ _ _ _=>[.hF k]
 |.mu k _ _ _ _=>[.hF k]
 |.oD k _ _ _=>[.hF k]
 |.app k _ _ s x => .hF k::((keyOf (a3 tm s)).map .hF++(keyOf (a3 tm x)).map .hF)
 |.sa _ d x=>(keyOf (a3 tm d)).map .hF++(keyOf (a3 tm x)).map .hF
 |.mv cx _ args=>JC cx (args.map (a3 tm))
 |.ti j _ args=>wu (args.map (a3 tm))[j]?
 |.sb j _ args=>wu (args.map (a3 tm))[j]?
 |.sc _ x=>(keyOf (a3 tm x)).map .hF
 |_=>[]
def jS:kp->Bool
 |.store ..=>true
 |.alloc ..=>true
 |.box ..=>true
 |.fc _ true _ _ _ _=>true
 |.mu ..=>true
 |.oD ..=>true
 |.app ..=>true
 |.sa ..=>true
 |.mv ..=>true
 |.ti ..=>true
 |.sb ..=>true
 |.sc ..=>true
 |_=>false
def ql:Q->Q
 |.I d => .I d
 |.nil => .nil
 |.fA f [] => .fA f []
 |.agg cs=>match cs.mapM u3 with
  |some ds => .I (.agg ds)
  |none => .undef
 |_ => .undef
def Fx (cx:Nat)(mem:Mem):List Q->Option g8->Option (Q×Option (Key×Nat×List Q))
 |.ptr k _ off::_,some (.e6 r k' c0 i c)=>match mem k with
  |some (g,cs)=>if k'=k/\c0=g/\i=off+cx then some (.I r,some (k,g,cs.set i c)) else none
  |none=>none
 |_,_=>none
def Ta (cs:List Q):Option (List Data):=cs.mapM u3
def JD (sz off len:Nat)(cs:List Q):Option Data:=match cut cs off (len*sz) with
 |some part=>(Ta part).map λds => .X (chunk sz len ds)
 |none=>none
def NQ:Option g8->Option Data
 |some (.same r)=>some r
 |some (.own _ es)=>some (.X es)
 |_=>none
def Tb (T:bb)(j:Nat)(f:FuncId)(ms:List Q)(k:Key)(g sz off len:Nat):Option (Nat×List Q)->Option (Q×Option (Key×Nat×List Q))
 |some (c0,cs)=>if c0=g then (match JD sz off len cs with
  |some d=>(match NQ (T f (ms.set j (.I d)) emp) with
   |some r=>some (.I r,some (k,c0+1,[]))
   |none=>none)
  |none=>none) else none
 |none=>none
def JE (T:bb)(mem:Mem)(j:Nat)(f:FuncId)(ms:List Q):Option Q->Option (Q×Option (Key×Nat×List Q))
 |some (.ref k g sz off len)=>Tb T j f ms k g sz off len (mem k)
 |_=>none
def nU (cs:List Q):Bool:=cs.all λm=>(u3 m).isSome
def Tc (T:bb)(j:Nat)(f:FuncId)(ms:List Q)(k:Key)(g sz off len:Nat):Option (Nat×List Q)->Option (Q×Option (Key×Nat×List Q))
 |some (c0,cs)=>if nU cs=true then (match T f (ms.set j (.ref k g sz off len)) (a1 emp k c0 cs) with
  |some (.ze r k')=>if k'=k then some (.I r,some (k,c0+1,[])) else none
  |_=>none) else none
 |none=>none
def JF (T:bb)(mem:Mem)(j:Nat)(f:FuncId)(ms:List Q):Option Q->Option (Q×Option (Key×Nat×List Q))
 |some (.ref k g sz off len)=>Tc T j f ms k g sz off len (mem k)
 |_=>none
def hG (T:bb)(mem:Mem)(tm:Nat->Q):kp->Option (Q×Option (Key×Nat×List Q))
 |.call f args=>match T f (args.map λx=>ql (a3 tm x)) emp with
  |some (.same r)=>some (.I r,none)
  |some (.own _ es)=>some (.I (.X es),none)
  |_=>none
 |.oD k sz f args=>match T f (args.map λx=>ql (a3 tm x)) emp with
  |some (.own ev es)=>if ev=sz then some (.ref k (bY mem k) sz 0 (D es),some (k,bY mem k,es.flatten.map .I)) else none
  |_=>none
 |.jQ ..=>none
 |.q8 ..=>none
 |.mv cx f args=>Fx cx mem (args.map (a3 tm)) (T f (args.map (a3 tm)) mem)
 |.ti j f args=>JE T mem j f (args.map λx=>ql (a3 tm x)) (args.map (a3 tm))[j]?
 |.sb j f args=>JF T mem j f (args.map λx=>ql (a3 tm x)) (args.map (a3 tm))[j]?
 |op=>cl mem tm op
abbrev Rec:=Nat->Option (Bool×List nk)
def rf (a b:Bool×List nk):Bool:=!(a.1||b.1)||a.2.all λx=>b.2.all λy=>re x y
def Fy (rec:Rec)(p:Bool×List nk)(c:List Nat):Bool:=c.all λi=>match rec i with
 |none=>true
 |some q=>rf q p
def u5 (rec:Rec)(n:Nat)(p:Bool×List nk):Rec:=λi=>if i=n then some p else rec i
def wv (T:bb)(K:ba->Prop):Nat->List c6->List (List Nat)->Rec->ba->Prop
 |_,[],_,_,st=>K st
 |n,i::r,cs,rec,st=>match pc st.tm i.g with
  |none=>False
  |some g=>if g=true then (match hG T st.mem st.tm i.op with
    |some (m,e)=>Fy rec (jS i.op,dE st.tm i.op) (cs.headD [])=true/\wv T K (n+1) r cs.tail (u5 rec n (jS i.op,dE st.tm i.op)) ⟨put st.tm i.dst m,iq st.mem e⟩
    |none=>False) else wv T K (n+1) r cs.tail rec ⟨put st.tm i.dst .no,st.mem⟩
inductive eY where
 |normal
 |exit (id:Nat)
 |ret
def cy:Nat->Mem->Q->Option Data
 |_,_,.I d=>some d
 |_,_,.nil=>some (.X [])
 |0,_,_=>none
 |n+1,mem,.ref k g sz off len=>match mem k with
  |some (c0,cs)=>if c0=g then (match cut cs off (len*sz) with
   |some part=>(part.mapM (cy n mem)).map λds => .X (chunk sz len ds)
   |none=>none) else none
  |none=>none
 |n+1,mem,.ptr k g off=>match mem k with
  |some (c0,cs)=>if c0=g/\off<=(D cs) then ((cs.drop off).mapM (cy n mem)).map .ptr else none
  |none=>none
 |n+1,mem,.fA f cs=>(cs.mapM (cy n mem)).map (.fn f)
 |n+1,mem,.agg cs=>(cs.mapM (cy n mem)).map .agg
 |n+1,mem,.cH cs=>(cs.mapM (cy n mem)).map .cH
 |_,_,.no=>none
 |_,_,.undef=>none
def kill (mem:Mem)(k:Key):Mem:=a1 mem k (bY mem k) []
inductive sd (mem:Mem):Mem->Prop
 |NR (fR g9:Nat) (gK:List Q) (i k g sz off len:Nat) (cs:List Q) (k':Nat) (E:mem fR=some (g9,gK)) (H:gK[i]?=some (.ref k g sz off len)) (af:mem k=some (g,cs)) (aP:k≠fR) (bt:k'≠k) (bU:k'≠fR) :
   sd mem (a1 (a1 (a1 mem k (bY mem k) []) k' (bY mem k') cs) fR g9 (gK.set i (.ref k' (bY mem k') sz off len)))
 |acV (fR g9:Nat) (gK:List Q) (i k g off:Nat) (cs:List Q) (k':Nat) (E:mem fR=some (g9,gK)) (H:gK[i]?=some (.ptr k g off)) (af:mem k=some (g,cs)) (aP:k≠fR) (bt:k'≠k) (bU:k'≠fR) :
   sd mem (a1 (a1 (a1 mem k (bY mem k) []) k' (bY mem k') cs) fR g9 (gK.set i (.ptr k' (bY mem k') off)))
 |NS (fR g9:Nat) (gK:List Q) (i k g sz off len:Nat) (cs:List Q) (d:Data) (E:mem fR=some (g9,gK)) (H:gK[i]?=some (.ref k g sz off len)) (af:mem k=some (g,cs)) (aP:k≠fR) (bt:cy 1 mem (.ref k g sz off len)=some d) :
   sd mem (a1 (kill mem k) fR g9 (gK.set i (.I d)))
inductive tj:Mem->Mem->Prop
 |refl (mem:Mem):tj mem mem
 |step {mem JG acW:Mem} (h:sd mem JG) (cn:tj JG acW):tj mem acW
def ly (K:ba->Prop)(st:ba):NI->Prop
 |.oE s k sz=>match st.tm s with
  |.nil=>K ⟨e6 st.tm s (.ref k (bY st.mem k) sz 0 0),a1 st.mem k (bY st.mem k) []⟩
  |_=>False
 |.NJ x i k sz=>match a3 st.tm x with
  |.ptr kc g off=>match st.mem kc with
   |some (c0,cs)=>if c0=g then (match cs[off+i]? with
    |some .nil=>if k≠kc then K ⟨st.tm,a1 (a1 st.mem k (bY st.mem k) []) kc g (cs.set (off+i) (.ref k (bY st.mem k) sz 0 0))⟩ else False
    |_=>False) else False
   |none=>False
  |_=>False
 |.freeze s=>match st.tm s with
  |.ref k g _ _ _=>match st.mem k with
   |some (c0,cs)=>if c0=g/\nU cs=true then (match cy 1 st.mem (st.tm s) with
    |some d=>K ⟨e6 st.tm s (.I d),kill st.mem k⟩
    |none=>False) else False
   |none=>False
  |_=>False
 |.NK x i=>match a3 st.tm x with
  |.ptr kc gc off=>match st.mem kc with
   |some (JH,cc)=>if JH=gc then (match cc[off+i]? with
    |some (.ref k g sz o len)=>match st.mem k with
     |some (c0,cs)=>if c0=g/\nU cs=true/\k≠kc then (match cy 1 st.mem (.ref k g sz o len) with
      |some d=>K ⟨st.tm,a1 (kill st.mem k) kc gc (cc.set (off+i) (.I d))⟩
      |none=>False) else False
     |none=>False
    |_=>False) else False
   |none=>False
  |_=>False
 |.move=>K st\/(∃fR g9 gK i k g sz off len cs k',st.mem fR=some (g9,gK)/\gK[i]?=some (.ref k g sz off len)/\st.mem k=some (g,cs)/\k≠fR/\k'≠k/\k'≠fR /\
   K ⟨st.tm,a1 (a1 (a1 st.mem k (bY st.mem k) []) k' (bY st.mem k') cs) fR g9 (gK.set i (.ref k' (bY st.mem k') sz off len))⟩) \/
   ∃fR g9 gK i k g sz off len cs d,st.mem fR=some (g9,gK)/\gK[i]?=some (.ref k g sz off len)/\st.mem k=some (g,cs)/\nU cs=true/\k≠fR/\cy 1 st.mem (.ref k g sz off len)=some d /\
   K ⟨st.tm,a1 (kill st.mem k) fR g9 (gK.set i (.I d))⟩
 |.many=>∃mem',tj st.mem mem'/\K ⟨st.tm,mem'⟩
def wp (T:bb):eA->(eY->ba->Prop)->ba->Prop
 |.skip,K,st=>K .normal st
 |.ops l,K,st=>xQ T (K .normal) l st
 |.nj l c,K,st=>wv T (K .normal) 0 l c (λ_=>none) st
 |.seq a b,K,st=>wp T a (λe dO=>match e with
  |.normal=>wp T b K dO
  |e=>K e dO) st
 |.cond c a b,K,st=>match a3 st.tm c with
  |.I (.bool t)=>if t=true then wp T a K st else wp T b K st
  |_=>False
 |.block id c,K,st=>wp T c (λe dO=>match e with
  |.exit j=>if j=id then K .normal dO else K (.exit j) dO
  |e=>K e dO) st
 |.loop c,K,st=>∃(Db:ba->Prop) (μ:ba->Nat),Db st/\∀st,Db st->wp T c (λe dO=>match e with
  |.normal=>Db dO/\μ dO<μ st
  |e=>K e dO) st
 |.exit id,K,st=>K (.exit id) st
 |.ret,K,st=>K .ret st
 |.ghost g c,K,st=>ly (wp T c K) st g
def Fz (st:ba):oF->Option Q
 |.t s=>some (st.tm s)
 |.cell s n dS=>qj st.mem n dS (st.tm s)
def pK (st:ba)(l:List oF):Option Q :=
 match l.mapM (Fz st) with
 |some [m]=>some m
 |some ms=>some (.cH ms)
 |none=>none
def kr (args:List Q):Nat->Q:=λs=>match args[s]? with
 |some m=>m
 |none => .no
def JI:Value->Option Q
 |.int k n=>some (.I (.int k n))
 |.bool b=>some (.I (.bool b))
 |.string s=>some (.I (.str s.data.toList))
 |.slice none 0 0=>some .nil
 |.pointer none=>some (.I .u0)
 |.nilFunc=>some (.I .u1)
 |_=>none
def Td:Value->Option Q
 |.agg cs=>(cs.toList.mapM JI).map .agg
 |v=>JI v
def dH:Operand->Option bS
 |.tmp t=>some (.t t)
 |.const v=>(Td v).map .c
 |.func f=>some (.c (.fA f []))
 |.global _=>none
def zeroOf (P:Program)(t:TypeId):Option (List Q):=((P.info? t).bind (·.zero)).bind λz=>z.cells.toList.mapM JI
def gn (P:Program)(t:TypeId):Option Nat:=(P.info? t).map (·.size)
def FA (P:Program)(t:TypeId):Option Nat:=(P.info? t).map (·.bytes)
def zf (P:Program)(t:TypeId):Option Bool:=(P.underlying t).map fun|.struct _=>true|.array _ _=>true|_=>false
def partsOf (place:Nat->Option (Nat×Nat))(l:List (Nat×Operand)):Option (List (Nat×Nat×bS)) :=
 l.mapM λ(i,x)=>do
  let (o,s) <-place i
  let y <-dH x
  pure (o,s,y)
def u6 (P:Program)(dI:Array Field)(i:Nat):Option (Nat×Nat):=do
 let f <-dI[i]?
 let s <-gn P f.type
 pure (f.offset,s)
def JJ (P:Program)(t:TypeId):Option Nat :=
 match P.underlying t with
 |some .bool=>some 0
 |some (.int _)=>some 1
 |some .string=>some 2
 |_=>none
def FB (P:Program):Nat->List Field->Option (List Nat)
 |_,[]=>some []
 | i, f :: r => if f.name ≠ "_" /\ f.offset = i then (match JJ P f.type, FB P (i + 1) r with
  |some k,some gZ=>some (k::gZ)
  |_,_=>none) else none
def wx (P:Program)(t:TypeId)(dI:Array Field)(neg:Bool)(x y:Operand):Option kp :=
 if P.stoodInHeld t=false/\P.eqGuardType P.depth t=false then (match FB P 0 dI.toList,dH x,dH y with
  |some gZ,some x,some y=>some (.eqs neg gZ x y)
  |_,_,_=>none) else none
def Te:Operand->Bool
 |.const (.slice none 0 0)=>true
 |_=>false
def zg (P:Program)(op:BinOp)(t:TypeId)(x y:Operand):Option kp :=
 match P.underlying t with
 |some (.int _)=>match dH x,dH y with
  |some x,some y=>some (.bin op x y)
  |_,_=>none
 |some .string=>match dH x,dH y with
  |some x,some y=>some (.bin op x y)
  |_,_=>none
 |some .bool=>match op,dH x,dH y with
  |.eql,some x,some y=>some (.beq false x y)
  |.neq,some x,some y=>some (.beq true x y)
  |_,_,_=>none
 |some (.struct dI)=>match op with
  |.eql=>wx P t dI false x y
  |.neq=>wx P t dI true x y
  |_=>none
 |some (.slice _)=>if Te y=true then (match op with
  |.eql=>(dH x).map (.q8 false)
  |.neq=>(dH x).map (.q8 true)
  |_=>none) else none
 |_=>none
def tk:Option Operand->Option (Option bS)
 |none=>some none
 |some x=>(dH x).map some
def xR (P:Program)(kb:Nat)(own:List Nat)(dst:Option Nat)(type:TypeId)(c:Call):Option kp :=
 match c.callee,c.args.toList,c.argTypes.toList with
 |.builtin .len,[x],[t]=>match P.underlying t with
  |some (.slice _)=>(dH x).map .len
  |some .string=>(dH x).map .lens
  |_=>none
 |.builtin .append,[s,x],[t,u]=>match P.underlying t,P.underlying u with
  |some (.slice e),some (.slice _)=>do
   let z <-zeroOf P e
   let b <-FA P e
   let n <-gn P e
   let d <-dst
   let s <-dH s
   let x <-dH x
   if (D z)=n/\0<n/\t=u then pure (.app (kb+d) z b s x) else none
  |_,_=>none
 |.builtin .copy,[d,x],[t,u]=>match P.underlying t,P.underlying u with
  |some (.slice e),some (.slice _)=>do
   let n <-gn P e
   if 0<n then pure (.sa n (<-dH d) (<-dH x)) else none
  |_,_=>none
 |.builtin .clear,[x],[t]=>match P.underlying t with
  |some (.slice e)=>do
   let z <-zeroOf P e
   let n <-gn P e
   if (D z)=n/\0<n then pure (.sc z (<-dH x)) else none
  |_=>none
 |.builtin .max,[x,y],_=>do pure (.iK true (<-dH x) (<-dH y))
 |.builtin .min,[x,y],_=>do pure (.iK false (<-dH x) (<-dH y))
 |.value (.func f),l,_=>if dst.any (λd=>own.contains d) then (match P.underlying type with
   |some (.slice e)=>do pure (.oD (kb+(<-dst)) (<-gn P e) f (<-l.mapM dH))
   |_=>none) else match own.find? (λo=>decide (1000000<=o)&&dst==some (o%1000000)) with
   |some o=>if 1000000000000<=o then do pure (.sb (o/1000000000000-1) f (<-l.mapM dH)) else if 1000000000<=o then do pure (.ti (o/1000000000-1) f (<-l.mapM dH)) else do pure (.mv (o/1000000-1) f (<-l.mapM dH))
   |none=>do pure (.call f (<-l.mapM dH))
 |.value f,l,_=>do pure (.jQ (<-dH f) (<-l.mapM dH))
 |_,_,_=>none
def jT (P:Program)(kb:Nat)(own:List Nat)(dst:Option Nat)(type:TypeId):Op->Option kp
 |.move x=>(dH x).map .cp
 |.assign x=>(dH x).map .cp
 |.pick c a b=>do pure (.pick (<-dH c) (<-dH a) (<-dH b))
 |.alloc e=>do pure (.alloc (kb+(<-dst)) (<-zeroOf P e))
 |.box _ x=>do pure (.box (kb+(<-dst)) (<-dH x))
 |.build t ps=>match P.underlying t with
  |some (.struct dI)=>if (dI.toList.all λf=>(gn P f.type).isSome)=true then do pure (.build (<-zeroOf P t) (<-partsOf (u6 P dI) ps.toList)) else none
  |some (.array _ e)=>do
   let s <-gn P e
   pure (.build (<-zeroOf P t) (<-partsOf (λi=>some (i*s,s)) ps.toList))
  |_=>none
 |.buildSlice t len ps=>match P.underlying t with
  |some (.slice e)=>do
   let z <-zeroOf P e
   let s <-gn P e
   let ps <-partsOf (λi=>some (i*s,s)) ps.toList
   let d <-dst
   if (D z)=s/\0<s/\len*s<=16777216 then pure (.fc (kb+d) (own.contains d) ((dD len z).flatten) s len ps) else none
  |_=>none
 |.load t x=>do pure (.load (<-gn P t) (<-zf P t) (<-dH x))
 |.store t x v=>do pure (.store (<-gn P t) (<-dH x) (<-dH v))
 |.binOp op t x y _=>zg P op t x y
 |.unOp op _ x=>(dH x).map (.un op)
 |.nilCheck x=>(dH x).map .r9
 |.convert s t x=>match P.underlying s,P.underlying t with
  |some (.int _),some (.int k)=>(dH x).map (.conv k)
  |_,_=>none
 |.makeFunc (.func f) fst eP=>if fst.size=0 then do pure (.pJ f (<-eP.toList.mapM dH)) else none
 |.makeSlice t l c=>match P.underlying t with
  |some (.slice e)=>do
   let z <-zeroOf P e
   let s <-gn P e
   let b <-FA P e
   let d <-dst
   if (D z)=s/\0<s then pure (.mu (kb+d) z b (<-dH l) (<-dH c)) else none
  |_=>none
 |.slice t x cx J kq=>match P.underlying t with
  |some (.slice e)=>do
   let s <-gn P e
   if 0<s then pure (.oC s (<-dH x) (<-tk cx) (<-tk J) (<-tk kq)) else none
  |some (.array n e)=>do
   let s <-gn P e
   if 0<s/\n<=16777216 then pure (.th n s (<-dH x) (<-tk cx) (<-tk J) (<-tk kq)) else none
  |some .string=>if kq.isNone then do pure (.C9 (<-dH x) (<-tk cx) (<-tk J)) else none
  |_=>none
 |.fieldAddr t x f=>match P.underlying t with
  |some (.struct dI)=>do
   let (o,s) <-u6 P dI f
   if 0<s then pure (.ef o (<-dH x)) else none
  |_=>none
 |.field t x f=>match P.underlying t with
  |some (.struct dI)=>do
   let fd <-dI[f]?
   let (o,s) <-u6 P dI f
   pure (.C8 o s (<-zf P fd.type) (<-dH x))
  |_=>none
 |.indexAddr t x i=>match P.underlying t with
  |some (.slice e)=>do
   let s <-gn P e
   if 0<s then pure (.kE s (<-dH x) (<-dH i)) else none
  |some (.array n e)=>do
   let s <-gn P e
   if 0<s then pure (.pb n s (<-dH x) (<-dH i)) else none
  |_=>none
 |.index t x i=>match P.underlying t with
  |some .string=>do pure (.idxs (<-dH x) (<-dH i))
  |_=>none
 |.extract x i=>(dH x).map (.ext i)
 |.call c=>xR P kb own dst type c
 |_=>none
def JK (ops:Array Oper):Option (Nat×Bool)->Option (Option (Nat×Bool))
 |none=>some none
 |some (j,b)=>match (ops[j]?).bind (·.dst) with
  |some s=>some (some (s,b))
  |none=>none
def A8 (P:Program)(n kb:Nat)(own:List Nat)(ops:Array Oper)(o:Oper):Option c6 :=
 match JK ops o.guard with
 |some g=>if o.dst.all (λd=>decide (d<n))=true then some ⟨o.dst,g,(jT P kb own o.dst o.type o.op).getD .bad⟩ else none
 |_=>none
def se (m:kp):Nat:=match m with
 |.load ..=>1
 |.th ..=>1
 |m=>if jS m=true then 2 else 0
def zh (a b:Nat):Bool:=a==0||b==0||(a==1&&b==1)
def fm:bS->List Nat
 |.t s=>[s]
 |.c _=>[]
def xS:Option bS->List Nat
 |some (.t s)=>[s]
 |_=>[]
def sf:kp->List Nat
 |.cp x=>fm x
 |.pick c a b=>fm c++fm a++fm b
 |.alloc _ _=>[]
 |.box _ x=>fm x
 |.build _ ps=>ps.flatMap λp=>fm p.2.2
 |.fc _ _ _ _ _ ps=>ps.flatMap λp=>fm p.2.2
 |.load _ _ x=>fm x
 |.store _ x v=>fm x++fm v
 |.bin _ x y=>fm x++fm y
 |.beq _ x y=>fm x++fm y
 |.eqs _ _ x y=>fm x++fm y
 |.q8 _ x=>fm x
 |.un _ x=>fm x
 |.conv _ x=>fm x
 |.r9 x=>fm x
 |.mu _ _ _ x y=>fm x++fm y
 |.ef _ x=>fm x
 |.C8 _ _ _ x=>fm x
 |.kE _ x i=>fm x++fm i
 |.pb _ _ x i=>fm x++fm i
 |.idxs x i=>fm x++fm i
 |.oC _ x a b c=>fm x++xS a++xS b++xS c
 |.th _ _ x a b c=>fm x++xS a++xS b++xS c
 |.C9 x a b=>fm x++xS a++xS b
 |.ext _ x=>fm x
 |.len x=>fm x
 |.lens x=>fm x
 |.app _ _ _ s x=>fm s++fm x
 |.sa _ s x=>fm s++fm x
 |.iK _ x y=>fm x++fm y
 |.call _ l=>l.flatMap fm
 |.oD _ _ _ l=>l.flatMap fm
 |.jQ f l=>fm f++l.flatMap fm
 |.mv _ _ l=>l.flatMap fm
 |.ti _ _ l=>l.flatMap fm
 |.sb _ _ l=>l.flatMap fm
 |.sc _ x=>fm x
 |.pJ _ l=>l.flatMap fm
 |.bad=>[]
def A9 (i:c6):List Nat:=sf i.op++(match i.g with|some (s,_)=>[s]|none=>[])
def xT (x y:c6):Bool :=
 (
  match x.dst with
  |some d => !(A9 y).contains d&&y.dst != some d
  |none=>true) &&
 (
  match y.dst with
  |some d => !(A9 x).contains d
  |none=>true)
def qm:List Oper->List Nat->List Nat
 | [],acc=>acc
 |o::r,acc=>qm r (acc++[o.after.toList.foldl (λs e=>if Region.binds .any e=true then s ||| (2^e.on ||| acc.getD e.on 0) else s) 0])
def FC:List c6->List c6->List Nat->Bool
 |_,[],_=>true
 |pre,c::cs,a::as=>(pre.zipIdx.all λ(p,i)=>a.testBit i||xT p c)&&FC (pre++[c]) cs as
 |_,_::_,[]=>false
def FE:Nat->List Oper->Bool
 |_,[]=>true
 |n,o::r=>(o.after.all λe => !Region.binds .any e||decide (e.on<n))&&FE (n+1) r
def FF (ops:Array Oper)(l:List c6):Bool:=FE 0 ops.toList&&FC [] l (qm ops.toList [])
def zi:List c6->List c6->List Nat->List (List Nat)
 |_,[],_=>[]
 |pre,c::cs,as=>((pre.zipIdx.filter λ(p,i) => !((as.headD 0).testBit i||zh (se p.op) (se c.op))).map (·.2))::zi (pre++[c]) cs as.tail
def qn (P:Program)(n kb:Nat)(own:List Nat):Code->Option eA
 |.skip=>some .skip
 |.region _ ops draw=>match ops.toList.mapM (A8 P n kb own ops) with
  |some l=>if draw=true then (if FF ops l=true then some (.nj l (zi [] l (qm ops.toList []))) else none) else some (.ops l)
  |none=>none
 |.seq a b=>match qn P n kb own a,qn P n kb own b with
  |some x,some y=>some (.seq x y)
  |_,_=>none
 |.cond c a b=>match dH c,qn P n kb own a,qn P n kb own b with
  |some c,some x,some y=>some (.cond c x y)
  |_,_,_=>none
 |.block id c=>(qn P n kb own c).map (.block id)
 |.loop c=>(qn P n kb own c).map .loop
 |.exit id=>some (.exit id)
 |.ret=>some .ret
 |_=>none
def FG (P:Program):ResultVar->Option oF
 |.tmp t=>some (.t t)
 |.cell a t=>match gn P t,zf P t with
  |some s,some g=>some (.cell a s g)
  |_,_=>none
def sg (P:Program)(kb:Nat)(own:List Nat)(f:Func):Option bT :=
 match f.body with
 |none=>none
 |some c=>match qn P f.ntmps kb own c,f.results.toList.mapM (FG P) with
  |some b,some r=>some { n:=f.ntmps,aoo:=f.params.size+f.nfree,res:=r,body:=b }
  |_,_=>none
structure eH (A:Nat->Prop) (w:World) (B:e5) (aQ:World) (bs:e5) (mem':Mem):Prop where
 dT:fr A aQ bs mem'
 mZ:Trans A w B aQ bs
 aE:Fr (r8 B) w aQ
 fresh:∀b,r8 bs b->r8 B b\/w.heap.size<=b
theorem eH.still {A:Nat->Prop}{w aQ:World}{B:e5}{mem:Mem}(h:fr A w B mem)(f:Fr (λ_=>False) w aQ):eH A w B aQ B mem:=by
 have mZ:Trans A w B aQ B:=⟨f.size,λb ae bL=>⟨f.block b ae id,λO=>bL (.inl O)⟩,λ_ e he=>⟨e,he,.inl rfl⟩⟩;refine⟨⟨h.A2,h.inj,h.sep,λb ae=>C7 (h.lt b ae) f.size,λk g cs hm=>?_⟩,mZ,⟨f.os,f.tape,f.output,f.size,λb ae _=>f.block b ae id⟩,λb ae => .inl ae⟩;obtain⟨e,he,a9,aH,ae⟩:=h.dz k g cs hm;refine⟨e,he,a9,aH,λb jU=>?_⟩;obtain⟨vs,T,E,H,af,aP⟩:=ae b jU;have az:b<w.heap.size:=(Array.getElem?_eq_some_iff.1 E).1;exact⟨vs,T,(f.block b az id).trans E,H,af,λi m hm=>let ⟨v,ak,aa⟩:=aP i m hm;⟨v,ak,aa.q7 mZ⟩⟩
theorem eH.refl {A:Nat->Prop}{w:World}{B:e5}{mem:Mem}(h:fr A w B mem):eH A w B w B mem:=.still h (Fr.refl _ _)
def gB (B:e5)(k:Key)(e:mr):e5:=λj=>if j=k then some e else B j
theorem hx (B:e5)(k:Key)(e:mr):gB B k e k=some e:=by simp[gB]
theorem hh (B:e5){k j:Key}(e:mr)(h:j≠k):gB B k e j=B j:=by simp[gB,h]
section
variable {A:Nat->Prop} {w aQ:World} {B:e5} {mem:Mem} {k:Key} {e':mr} {cs:List Q}
theorem Trans.change (e4:w.heap.size<=aQ.heap.size)
  (hold:∀b,b<w.heap.size->(∀e,B k=some e->e.dz≠some b)->aQ.heap[b]?=w.heap[b]?)
  (a9:∀e,B k=some e->e'=e\/e.g<e'.g)
  (fl:∀b,e'.dz=some b->w.heap.size<=b\/∃e,B k=some e/\e.dz=some b):Trans A w B aQ (gB B k e'):=by
 refine⟨e4,λb ae bL=>⟨hold b ae λe he O=>bL (.inl ⟨k,e,he,O⟩),?_⟩,λj e he=>?_⟩
 ·rintro⟨j,e,he,O⟩
  by_cases ah:j=k
  ·subst ah;rw[hx] at he
   cases he;rcases fl b O with E|⟨e,E,H⟩
   ·omega
   ·exact bL (.inl ⟨_,e,E,H⟩)
  ·rw[hh B e' ah] at he;exact bL (.inl ⟨j,e,he,O⟩)
 ·by_cases ah:j=k
  ·subst ah;exact⟨e',hx _ _ _,a9 e he⟩
  ·exact⟨e,(hh B e' ah).trans he,.inl rfl⟩
theorem Tf (fl:∀b,e'.dz=some b->w.heap.size<=b\/∃e,B k=some e/\e.dz=some b)(b:Nat)(h:r8 (gB B k e') b):r8 B b\/w.heap.size<=b:=by
 obtain⟨j,e,he,O⟩:=h
 by_cases ah:j=k
 ·subst ah;rw[hx] at he
  cases he;rcases fl b O with E|⟨e,E,H⟩
  ·exact .inr E
  ·exact .inl ⟨_,e,E,H⟩
 ·rw[hh B e' ah] at he;exact .inl ⟨j,e,he,O⟩
theorem fr.acX (h:fr A w B mem)(e4:w.heap.size<=aQ.heap.size)
  (hold:∀b,b<w.heap.size->(∀e,B k=some e->e.dz≠some b)->aQ.heap[b]?=w.heap[b]?)
  (a9:∀e,B k=some e->e'=e\/e.g<e'.g)
  (fl:∀b,e'.dz=some b->w.heap.size<=b\/∃e,B k=some e/\e.dz=some b)
  (aH:e'.dz=none->cs=[])
  (G:∀b,e'.dz=some b->∃vs T,aQ.heap[b]?=some (.cells vs T (0,0))/\vs.size=e'.size/\D cs<=vs.size /\
   ∀(i:Nat) (m:Q),cs[i]?=some m->∃v,vs[i]?=some v/\bq aQ (cb A (gB B k e')) (gB B k e') m v):fr A aQ (gB B k e') (a1 mem k e'.g cs):=by
 have mZ:Trans A w B aQ (gB B k e'):=Trans.change e4 hold a9 fl;have fresh:=Tf (w:=w) fl;refine⟨λj ah=>?_,λj lW e aB b he fq ae eR=>?_,λb aM bL=>?_,λb ae=>C7 (h.lt b ae) e4,λj g nm hm=>?_⟩
 ·by_cases dX:j=k
  ·subst dX;simp[a1] at ah
  ·simp only[a1,dX,if_false] at ah;rw[hh B e' dX];exact h.A2 j ah
 ·by_cases dX:j=k<;>by_cases hjk':lW=k
  ·rw[dX,hjk']
  ·subst dX;rw[hx] at he
   cases he;rw[hh B e' hjk'] at fq;rcases fl b ae with E|⟨e,E,H⟩
   ·have:=h.xN ⟨lW,aB,fq,eR⟩;omega
   ·exact h.inj _ _ e aB b E fq H eR
  ·subst hjk';rw[hx] at fq
   cases fq;rw[hh B e' dX] at he;rcases fl b eR with E|⟨bG,E,H⟩
   ·have:=h.xN ⟨j,e,he,ae⟩;omega
   ·exact h.inj _ _ e bG b he E ae H
  ·rw[hh B e' dX] at he;rw[hh B e' hjk'] at fq;exact h.inj j lW e aB b he fq ae eR
 ·rcases fresh b bL with E|E
  ·exact h.sep b aM E
  ·have:=h.lt b aM;omega
 ·by_cases dX:j=k
  ·subst dX;simp only[a1,if_true,cm,fo] at hm;obtain⟨rfl,rfl⟩:=hm;refine⟨e',hx _ _ _,rfl,aH,λb ae=>?_⟩;obtain⟨vs,T,E,H,af,aP⟩:=G b ae;exact⟨vs,T,E,H,af,aP⟩
  ·simp only[a1,dX,if_false] at hm;obtain⟨e,he,JL,aop,kG⟩:=h.dz j g nm hm;refine⟨e,(hh B e' dX).trans he,JL,aop,λb ae=>?_⟩;obtain⟨vs,T,E,H,af,aP⟩:=kG b ae;have az:b<w.heap.size:=(Array.getElem?_eq_some_iff.1 E).1;have xU:aQ.heap[b]?=w.heap[b]?:=hold b az λbG af aP=>dX (h.inj j k e bG b he af ae aP);exact⟨vs,T,xU.trans E,H,af,λi m hm=>let ⟨v,ak,aa⟩:=aP i m hm;⟨v,ak,aa.q7 mZ⟩⟩
theorem fr.change (h:fr A w B mem)(e4:w.heap.size<=aQ.heap.size)
  (hold:∀b,b<w.heap.size->(∀e,B k=some e->e.dz≠some b)->aQ.heap[b]?=w.heap[b]?)
  (a9:∀e,B k=some e->e'=e\/e.g<e'.g)
  (fl:∀b,e'.dz=some b->w.heap.size<=b\/∃e,B k=some e/\e.dz=some b)
  (aH:e'.dz=none->cs=[])
  (G:∀b,e'.dz=some b->∃vs T,aQ.heap[b]?=some (.cells vs T (0,0))/\vs.size=e'.size/\D cs<=vs.size /\
   ∀(i:Nat) (m:Q),cs[i]?=some m->∃v,vs[i]?=some v/\bq w (cb A B) B m v):fr A aQ (gB B k e') (a1 mem k e'.g cs) :=
 h.acX e4 hold a9 fl aH λb ae=>by
  have mZ:Trans A w B aQ (gB B k e'):=Trans.change e4 hold a9 fl;obtain⟨vs,T,E,H,af,aP⟩:=G b ae;exact⟨vs,T,E,H,af,λi m hm=>let ⟨v,ak,aa⟩:=aP i m hm;⟨v,ak,aa.q7 mZ⟩⟩
theorem eH.change (h:fr A w B mem)(f:Fr (λb=>∃e,B k=some e/\e.dz=some b) w aQ)
  (a9:∀e,B k=some e->e'=e\/e.g<e'.g)
  (fl:∀b,e'.dz=some b->w.heap.size<=b\/∃e,B k=some e/\e.dz=some b)
  (aH:e'.dz=none->cs=[])
  (G:∀b,e'.dz=some b->∃vs T,aQ.heap[b]?=some (.cells vs T (0,0))/\vs.size=e'.size/\D cs<=vs.size /\
   ∀(i:Nat) (m:Q),cs[i]?=some m->∃v,vs[i]?=some v/\bq w (cb A B) B m v):eH A w B aQ (gB B k e') (a1 mem k e'.g cs):=by
 have hold:∀b,b<w.heap.size->(∀e,B k=some e->e.dz≠some b)->aQ.heap[b]?=w.heap[b]? :=
  λb ae O=>f.block b ae fun⟨e,he,jU⟩=>O e he jU
 exact⟨h.change f.size hold a9 fl aH G,Trans.change f.size hold a9 fl,⟨f.os,f.tape,f.output,f.size,λb ae bL=>f.block b ae fun⟨e,he,jU⟩=>bL ⟨k,e,he,jU⟩⟩,Tf fl⟩
theorem Dc (h:fr A w B mem)(k:Key)(e:mr)(he:B k=some e):e.g<bY mem k:=by
 cases hm:mem k with
 |none=>rw[h.A2 k hm] at he;cases he
 |some x =>
  obtain⟨g,cs⟩:=x;obtain⟨aB,E,H,_⟩:=h.dz k g cs hm;rw[E] at he
  cases he;simp[bY,hm,H]
theorem eH.alloc (h:fr A w B mem)(w1:World)(f:Fr (λ_=>False) w w1)(aW:w1.heap.size=w.heap.size)(k:Key)(vs:Array Value)(T:TypeId)(av:(D cs)<=vs.size)
  (G:∀(i:Nat) (m:Q),cs[i]?=some m->∃v,vs[i]?=some v/\bq w (cb A B) B m v) :
  eH A w B (w1.alloc (.cells vs T)) (gB B k ⟨bY mem k,some w.heap.size,vs.size⟩) (a1 mem k (bY mem k) cs):=by
 have f2:Fr (λ_=>False) w (w1.alloc (.cells vs T)):=f.alloc _;refine eH.change (e':=⟨bY mem k,some w.heap.size,vs.size⟩) h ⟨f2.os,f2.tape,f2.output,f2.size,λb ae _=>f2.block b ae id⟩ (λe he => .inr (Dc h k e he)) (λb ae => .inl ?_) (by simp) ?_
 ·simp at ae;omega
 ·intro b ae;simp at ae;subst ae;exact⟨vs,T,by rw[<-aW];exact heap_alloc_new w1 _,rfl,av,G⟩
theorem eH.xV (h:fr A w B mem)(k:Key):eH A w B w (gB B k ⟨bY mem k,none,0⟩) (a1 mem k (bY mem k) []) :=
 eH.change (e':=⟨bY mem k,none,0⟩) h ⟨rfl,rfl,rfl,bX _,λ_ _ _=>rfl⟩ (λe he => .inr (Dc h k e he)) (λb ae=>by simp at ae) (λ_=>rfl) (λb ae=>by simp at ae)
end
theorem eH.trans {A:Nat->Prop}{w w1 ni:World}{B A1 C6:e5}{dJ cU:Mem}(h:eH A w B w1 A1 dJ)(cn:eH A w1 A1 ni C6 cU):eH A w B ni C6 cU:=by
 refine⟨cn.dT,h.mZ.trans cn.mZ,⟨cn.aE.os.trans h.aE.os,cn.aE.tape.trans h.aE.tape,cn.aE.output.trans h.aE.output,eQ h.aE.size cn.aE.size,λb ae bL=>?_⟩,λb ae=>?_⟩
 ·have E:=h.aE.block b ae bL;refine (cn.aE.block b (C7 ae h.aE.size) λO=>?_).trans E;rcases h.fresh b O with H|H
  ·exact bL H
  ·omega
 ·rcases cn.fresh b ae with E|E
  ·exact h.fresh b E
  ·exact .inr (eQ h.aE.size E)
theorem Tg {w:World}{aX:Nat->Prop}{B:e5}{v:Value}{m:Q}(h:JI v=some m):bq w aX B m v:=by
 unfold JI at h
 split at h<;>simp only[cm,reduceCtorEq] at h<;>subst h
 ·exact .I .int
 ·exact .I .bool
 ·rename_i s
  exact .I (by
   have:s=⟨s.data.toList.toArray⟩:=by simp
   rw[this]
   simpa using Den.str (s:=s.data.toList))
 ·exact .nil
 ·exact .I .u0
 ·exact .I .u1
theorem oG {α β:Type}{f:α->Option β}:∀{l:List α} {r:List β},l.mapM f=some r->(D r)=D l/\∀(i:Nat) (x:α) (y:β),l[i]?=some x->r[i]?=some y->f x=some y
 | [],r,h=>by
  simp at h;subst h;exact⟨rfl,λi x y E=>by simp at E⟩
 |a::l,r,h=>by
  simp only[lz,hi,hy,er,cm] at h;obtain⟨b,ae,FH,aa,rfl⟩:=h;obtain⟨E,H⟩:=oG aa;refine⟨by simp[E],λi x y O ar=>?_⟩
  cases i with
  |zero=>simp at O ar;subst O;subst ar;exact ae
  |succ i=>exact H i x y (by simpa using O) (by simpa using ar)
theorem aoq {w:World}{aX:Nat->Prop}{B:e5}{v:Value}{m:Q}(h:Td v=some m):bq w aX B m v:=by
 unfold Td at h
 split at h
 ·rename_i cs;simp only[dY] at h;obtain⟨ms,aN,rfl⟩:=h;obtain⟨E,H⟩:=oG aN;have:=bq.agg (w:=w) (aX:=aX) (B:=B) (cs:=ms) (vs:=cs.toList) (by simp[E]) λi d v Y ak=>Tg (H i v d ak Y)
  simpa using this
 ·exact Tg h
section
variable {P:Program} {w:World} {aX:Nat->Prop} {B:e5}
theorem bq.xW {k:IntKind}{n:Int}{v:Value}(h:bq w aX B (.I (.int k n)) v):v=.int k n:=by
 cases h with
 |I h=>cases h;rfl
theorem bq.Dd {b:Bool}{v:Value}(h:bq w aX B (.I (.bool b)) v):v=.bool b:=by
 cases h with
 |I h=>cases h;rfl
theorem bq.De {s:List UInt8}{v:Value}(h:bq w aX B (.I (.str s)) v):v=.string ⟨s.toArray⟩:=by
 cases h with
 |I h=>cases h;rfl
theorem bq.ofInt {k:IntKind}{n:Int}:bq w aX B (.I (.int k n)) (.int k n):=.I .int
theorem aor {op:BinOp}{k:IntKind}{a b:Int}{d:Data}(t:TypeId)(U:Fs op=false)(h:NL op k a b=some d):
  ∃v,(binOp op t (.int k a) (.int k b)).run P w=.ok v w/\Den w aX d v:=by
 cases op<;>simp only[NL,cm,reduceCtorEq] at h<;>simp only[Fs,Bool.true_eq_false] at U
 case quo =>
  split at h
  ·cases h
  ·rename_i ae
   cases h;exact⟨_,by simp[go_sem,Op.intDiv,ae],.int⟩
 case rem =>
  split at h
  ·cases h
  ·rename_i ae
   cases h;exact⟨_,by simp[go_sem,Op.intDiv,ae],.int⟩
 all_goals
  subst h
  first
   |exact⟨_,by simp[go_sem,Op.intArith],.int⟩
   |exact⟨_,by simp[go_sem],.int⟩
   |exact⟨_,by simp[go_sem],.bool⟩
theorem aos {op:BinOp}{k k':IntKind}{a b:Int}{d:Data}(t:TypeId)(U:Fs op=true)(h:NM op k a b=some d):
  ∃v,(binOp op t (.int k a) (.int k' b)).run P w=.ok v w/\Den w aX d v:=by
 unfold NM at h
 split at h
 ·cases h
 ·rename_i ae
  cases op<;>simp only[Fs,k0] at U
  ·simp only[cm] at h;subst h;exact⟨.int k _,by simp[binOp,Op.shift,ae],.int⟩
  ·simp only[cm] at h;subst h;exact⟨.int k _,by simp[binOp,Op.shift,ae],.int⟩
theorem NT {op:BinOp}{t:TypeId}{x y:Operand}{u v:Value}(E:u ≠ .nilIface)(H:∀c,u ≠ .agg c):eqGuard op t x y u v=pure ():=by
 unfold eqGuard
 cases op<;>cases u<;>first|rfl|exact absurd rfl E|exact absurd rfl (H _)
theorem aot {op:BinOp}{a b:List UInt8}{d:Data}(t:TypeId)(h:NN op a b=some d):
  ∃v,(binOp op t (.string ⟨a.toArray⟩) (.string ⟨b.toArray⟩)).run P w=.ok v w/\Den w aX d v:=by
 have aou:binOp op t (.string ⟨a.toArray⟩) (.string ⟨b.toArray⟩)=Op.stringOp op ⟨a.toArray⟩ ⟨b.toArray⟩:=by
  cases op<;>rfl
 rw[aou]
 cases op<;>simp only[NN,cm,reduceCtorEq] at h
 case add =>
  split at h
  ·rename_i av
   cases h;refine⟨.string ⟨(a++b).toArray⟩,?_,.str⟩;have NU:¬ (9223372036854775807<(D a:Int)+(D b:Int)):=by unfold maxLen at av;omega
   have ay:(ByteArray.mk a.toArray).size=D a:=by simp[ByteArray.size]
   have aB:(ByteArray.mk b.toArray).size=D b:=by simp[ByteArray.size]
   have zj:(ByteArray.mk a.toArray)++(ByteArray.mk b.toArray)=⟨(a++b).toArray⟩:=by
    apply ByteArray.ext;simp
   simp[Op.stringOp,ay,aB,NU,zj]
  ·cases h
 all_goals
  subst h;exact⟨_,by simp[Op.stringOp],.bool⟩
theorem acY {op:BinOp}{m n r:Q}{u v:Value}(t:TypeId)(x y:Operand)(hm:bq w aX B m u)(aH:bq w aX B n v)(h:Jj op m n=some r):
  ∃z,((do eqGuard op t x y u v;binOp op t u v:Sem Value)).run P w=.ok z w/\bq w aX B r z:=by
 unfold Jj at h
 split at h
 ·rename_i k a k' b
  cases hm.xW
  cases aH.xW;rw[NT (by simp) (by simp)]
  split at h
  ·rename_i U;simp only[dY] at h;obtain⟨d,Y,rfl⟩:=h;obtain⟨z,E,H⟩:=aos (P:=P) (w:=w) (aX:=aX) (k':=k') t U Y;exact⟨z,by simpa using E,.I H⟩
  ·rename_i U
   split at h
   ·rename_i M;subst M;simp only[dY] at h;obtain⟨d,Y,rfl⟩:=h;obtain⟨z,E,H⟩:=aor (P:=P) (w:=w) (aX:=aX) t (by simpa using U) Y;exact⟨z,by simpa using E,.I H⟩
   ·cases h
 ·rename_i a b
  cases hm.De
  cases aH.De;rw[NT (by simp) (by simp)];simp only[dY] at h;obtain⟨d,Y,rfl⟩:=h;obtain⟨z,E,H⟩:=aot (P:=P) (w:=w) (aX:=aX) t Y;exact⟨z,by simpa using E,.I H⟩
 ·cases h
theorem acZ {neg:Bool}{m n r:Q}{u v:Value}(t:TypeId)(x y:Operand)(bA:P.underlying t=some .bool)(hm:bq w aX B m u)(aH:bq w aX B n v)(h:Jk neg m n=some r):
  ∃z,((do eqGuard (if neg then .neq else .eql) t x y u v;binOp (if neg then .neq else .eql) t u v:Sem Value)).run P w=.ok z w/\bq w aX B r z:=by
 unfold Jk at h
 split at h
 ·rename_i a b
  cases hm.Dd
  cases aH.Dd
  cases h;rw[NT (by simp) (by simp)]
  cases neg
  ·exact⟨.bool (a==b),by simp[run_eql_bool w t a b bA],by cases a<;>cases b<;>exact .I .bool⟩
  ·exact⟨.bool (!(a==b)),by simp[run_neq_bool w t a b bA],by cases a<;>cases b<;>exact .I .bool⟩
 ·cases h
theorem aov {t:TypeId}{k:Nat}{m n:Q}{c:Bool}{u v:Value}(d:Nat)(M:JJ P t=some k)(hm:bq w aX B m u)(aH:bq w aX B n v)(h:NO k m n=some c):
  (Op.equalIn (d+1) t u v).run P w=.ok c w:=by
 unfold JJ at M;unfold NO at h
 split at h
 ·simp only[cm] at h
  cases hm.Dd
  cases aH.Dd;subst h
  split at M<;>first|(exfalso;simp at M;done)|(rename_i hu;exact run_equalIn_bool w d t _ _ hu)
 ·split at h
  ·rename_i Df;subst Df
   cases hm.xW
   cases aH.xW
   cases h
   split at M<;>first|(exfalso;simp at M;done)|(rename_i hu;exact run_equalIn_int w d t _ _ _ _ hu)
  ·cases h
 ·simp only[cm] at h
  cases hm.De
  cases aH.De;subst h
  split at M<;>first|(exfalso;simp at M;done)|(rename_i hu;rw[run_equalIn_string w d t _ _ hu];simp)
 ·cases h
theorem aow {t:TypeId}{k:Nat}(h:JJ P t=some k):(isAgg t).run P w=.ok false w:=by
 unfold JJ at h
 split at h<;>simp only[cm,reduceCtorEq] at h<;>(rename_i hu;simp[isAgg,run_underlying hu])
theorem ac0 {d:Nat}{xs ys:Array Value}{cs ds:List Q}(O:∀(i:Nat) (m:Q) (v:Value),cs[i]?=some m->xs[i]?=some v->bq w aX B m v)(tl:xs.size=D cs)
  (ar:∀(i:Nat) (m:Q) (v:Value),ds[i]?=some m->ys[i]?=some v->bq w aX B m v) (zk:ys.size=D ds) :
  ∀(dI:List Field) (i:Nat) (gZ:List Nat) (c:Bool),FB P i dI=some gZ->A5 gZ (cs.drop i) (ds.drop i)=some c->(Op.eqFields (d+1) xs ys dI).run P w=.ok c w
 | [],i,gZ,c,aK,G=>by
  simp[FB] at aK;subst aK
  cases E:cs.drop i<;>cases H:ds.drop i<;>simp[E,H,A5] at G;subst G;simp[Op.eqFields]
 |f::r,i,gZ,c,aK,G=>by
  simp only[FB] at aK
  split at aK
  ·rename_i aH;obtain⟨qo,xX⟩:=aH
   split at aK
   ·rename_i k aox M zl
    cases aK
    cases E:cs.drop i with
    |nil=>simp[E,A5] at G
    |cons a x =>
     cases H:ds.drop i with
     |nil=>simp[E,H,A5] at G
     |cons b y =>
      rw[E,H] at G;simp only[A5] at G
      split at G
      ·rename_i aI c2 g0 u7
       cases G
       have rh:i<D cs:=by
        rcases ir i (D cs) with h|h
        ·exact h
        ·rw[jV h] at E;cases E
       have nV:i<D ds:=by
        rcases ir i (D ds) with h|h
        ·exact h
        ·rw[jV h] at H;cases H
       rw[iu rh] at E;rw[iu nV] at H
       injection E with aM aoy
       injection H with ae aoz
       subst aM;subst ae;subst aoy;subst aoz
       have ex:xs[f.offset]?=some (xs[i]'(by omega)):=by rw[xX];exact Array.getElem?_eq_getElem (by omega)
       have Th:ys[f.offset]?=some (ys[i]'(by omega)):=by rw[xX];exact Array.getElem?_eq_getElem (by omega)
       have rx:=O i _ _ (bu rh) (Array.getElem?_eq_getElem (by omega:i<xs.size));have aoA:=ar i _ _ (bu nV) (Array.getElem?_eq_getElem (by omega:i<ys.size));have he:=aov (P:=P) d M rx aoA g0;have aA:=ac0 (d:=d) O tl ar zk r (i+1) aox c2 zl u7;have aoB:(isAgg f.type).run P w=.ok false w:=aow M;simp only[Op.eqFields,qo,ne_eq,not_false_eq_true,if_true,Sem.run_bind,part,aoB,Result.andThen_ok,k0,if_false,ex,Th,Sem.run_pure,he]
       cases aI
       ·simp
       ·simp[aA]
      ·cases G
   ·cases aK
  ·cases aK
theorem ac1 {m:Q}{v:Value}(h:bq w aX B m v)(E:m.one=true):v.oneCell'=true:=by
 cases h with
 |I Y=>cases Y<;>first|rfl|simp[Q.one] at E
 |nil=>rfl
 |ref he a9 ak=>obtain⟨a,cap,rfl,_⟩:=ak;rfl
 |ptr he a9 ak=>obtain⟨b,rfl,_⟩:=ak;rfl
 |fA av Y=>rfl
 |agg av Y=>simp[Q.one] at E
 |cH av Y=>simp[Q.one] at E
 |no=>simp[Q.one] at E
 |undef=>simp[Q.one] at E
theorem aoC {v:Value}(h:∀c,v ≠ .agg c):v.cells=#[v]:=by
 unfold Value.cells
 split
 ·rename_i cs;exact absurd rfl (h cs)
 ·rfl
theorem aoD {m:Q}{v:Value}(h:bq w aX B m v)(hu:m ≠ .undef):v.cells.size=D m.cells/\∀(i:Nat) (c:Q) (u:Value),m.cells[i]?=some c->v.cells[i]?=some u->bq w aX B c u:=by
 have one:(∀c,v ≠ .agg c)->m.cells=[m]->v.cells.size=D m.cells/\∀(i:Nat) (c:Q) (u:Value),m.cells[i]?=some c->v.cells[i]?=some u->bq w aX B c u:=by
  intro ak hm;rw[hm,aoC ak];refine⟨rfl,λi c u G hu=>?_⟩
  cases i with
  |zero=>simp at G hu;subst G;subst hu;exact h
  |succ i=>simp at G
 cases h with
 |I Y =>
  cases Y with
  |agg av Y =>
   refine⟨by simp[Value.cells,Q.cells];exact av,λi c u G hu=>?_⟩
   simp only[Q.cells,bh,dY] at G;obtain⟨d,nn,rfl⟩:=G;exact .I (Y i d u nn (by simpa [Value.cells] using hu))
  |_=>exact one (by simp) rfl
 |nil=>exact one (by simp) rfl
 |ref he a9 ak=>obtain⟨a,cap,rfl,_⟩:=ak;exact one (by simp) rfl
 |ptr he a9 ak=>obtain⟨b,rfl,_⟩:=ak;exact one (by simp) rfl
 |fA av Y=>exact one (by simp) rfl
 |agg av Y =>
  refine⟨by simp[Value.cells,Q.cells];exact av,λi c u G hu=>Y i c u (by simpa [Q.cells] using G) (by simpa [Value.cells] using hu)⟩
 |cH av Y=>exact one (by simp) rfl
 |no=>exact one (by simp[undef]) rfl
 |undef=>exact absurd rfl hu
end
section
variable {P:Program} {w:World} {aX:Nat->Prop} {B:e5}
def dq (w:World)(aX:Nat->Prop)(B:e5)(cs:List Q)(vs:List Value):Prop :=
 (D vs)=D cs/\∀(i:Nat) (m:Q) (v:Value),cs[i]?=some m->vs[i]?=some v->bq w aX B m v
theorem dq.get {cs:List Q}{vs:List Value}(h:dq w aX B cs vs){i:Nat}{m:Q}(J:cs[i]?=some m):∃v,vs[i]?=some v/\bq w aX B m v:=by
 have av:i<D cs:=(dP.1 J).1;have ak:vs[i]?=some (vs[i]'(by rw[h.1];exact av)):=bu _;exact⟨_,ak,h.2 i m _ J ak⟩
theorem dq.nil:dq w aX B [] []:=⟨rfl,λi m v h=>by simp at h⟩
theorem dq.cons {m:Q}{v:Value}{cs:List Q}{vs:List Value}(h:bq w aX B m v)(aa:dq w aX B cs vs):dq w aX B (m::cs) (v::vs):=by
 refine⟨by simp[aa.1],λi m' Dg E H=>?_⟩
 cases i with
 |zero=>simp at E H;subst E;subst H;exact h
 |succ i=>exact aa.2 i m' Dg (by simpa using E) (by simpa using H)
theorem dq.append {a b:List Q}{x y:List Value}(h:dq w aX B a x)(cn:dq w aX B b y):dq w aX B (a++b) (x++y):=by
 refine⟨by simp[h.1,cn.1],λi m v E H=>?_⟩
 rw[FI] at E H
 split at E
 ·rename_i J;rw[ab (by rw[h.1];exact J)] at H;exact h.2 i m v E H
 ·rename_i J;rw[ag (by rw[h.1];exact J),h.1] at H;exact cn.2 _ m v E H
theorem dq.drop {a:List Q}{x:List Value}(h:dq w aX B a x)(n:Nat):dq w aX B (a.drop n) (x.drop n) :=
 ⟨by simp[h.1],λi m v E H=>h.2 (n+i) m v (by simpa using E) (by simpa using H)⟩
theorem dq.take {a:List Q}{x:List Value}(h:dq w aX B a x)(n:Nat):dq w aX B (a.take n) (x.take n):=by
 refine⟨by simp[h.1],λi m v E H=>?_⟩
 rw[u9] at E H
 split at E
 ·rename_i J;rw[ab J] at H;exact h.2 i m v E H
 ·cases E
theorem dq.kY {a b:List Q}{x y:List Value}(h:dq w aX B a x)(cn:dq w aX B b y)(off:Nat):
  dq w aX B (kY a off b) (x.take off++y++x.drop (off+D y)):=by
 unfold Mini.kY;rw[cn.1];exact ((h.take off).append cn).append (h.drop _)
theorem dq.Ti {m:Q}{v:Value}(h:bq w aX B m v)(hu:m ≠ .undef):dq w aX B m.cells v.cells.toList:=by
 obtain⟨E,H⟩:=aoD h hu;exact⟨by simpa using E,λi c u G ak=>H i c u G (by simpa using ak)⟩
theorem dq.I {ds:List Data}{vs:List Value}(av:(D vs)=D ds)(h:∀(i:Nat) (d:Data) (v:Value),ds[i]?=some d->vs[i]?=some v->Den w aX d v):dq w aX B (ds.map .I) vs:=by
 refine⟨by simp[av],λi m v E H=>?_⟩
 simp only[bh,dY] at E;obtain⟨d,Y,rfl⟩:=E;exact .I (h i d v Y H)
theorem FJ {cs:List Q}{off n:Nat}{r:List Q}(h:cut cs off n=some r):off+n<=D cs/\r=(cs.drop off).take n/\D r=n:=by
 unfold cut at h
 split at h
 ·rename_i av
  cases h;exact⟨av,rfl,by simp;omega⟩
 ·cases h
def eI (w:World)(b off:Nat)(vs:List Value):Prop:=∀(j:Nat) (u:Value),vs[j]?=some u->w.cell? ⟨b,off+j,none⟩=some u
theorem eI.add {w:World}{b off:Nat}{vs:List Value}(h:eI w b off vs)(n:Nat):eI w b (off+n) (vs.drop n):=λj u ah=>by
 have:=h (n+j) u (by simpa using ah);rwa [<-qp] at this
theorem eI.take {w:World}{b off:Nat}{vs:List Value}(h:eI w b off vs)(n:Nat):eI w b off (vs.take n):=λj u ah=>by
 rw[u9] at ah
 split at ah
 ·exact h j u ah
 ·cases ah
theorem eI.row {w:World}{b:Nat}{vs:Array Value}{T:TypeId}{aE:Nat×Nat}(h:w.heap[b]?=some (.cells vs T aE)):eI w b 0 vs.toList:=λj u ah=>by
 rw[kH,cell_of_row w b j vs T aE h]
 simpa using ah
theorem zm (b off n:Nat):(⟨b,off,none⟩:Addr).add n=⟨b,off+n,none⟩:=by
 unfold Addr.add
 split<;>simp_all
theorem eI.load {b off:Nat}{vs:List Value}(h:eI w b off vs):(loadCells ⟨b,off,none⟩ (D vs)).run P w=.ok vs.toArray w :=
 run_loadCells_list w _ vs λj v ah=>by rw[zm];exact h j v ah
theorem va {t:TypeId}{n:Nat}(h:gn P t=some n):(sizeOf t).run P w=.ok n w:=by
 simp only[gn,dY] at h;obtain⟨i,J,rfl⟩:=h;simp[sizeOf,typeInfo,J]
theorem NV {t:TypeId}{g:Bool}(h:zf P t=some g):(isAgg t).run P w=.ok g w:=by
 simp only[zf,dY] at h;obtain⟨d,Y,rfl⟩:=h;simp only[isAgg,Sem.run_bind,run_underlying Y,Result.andThen_ok]
 cases d<;>rfl
theorem ac2 {t:TypeId}{n:Nat}{dS:Bool}{b off:Nat}{ms:List Q}{vs:List Value}{r:Q}(U:gn P t=some n)(aM:zf P t=some dS)(av:(D ms)=n)
  (bZ:dq w aX B ms vs) (cg:eI w b off vs) (h:q9 dS ms=some r):∃u,(loadVar t ⟨b,off,none⟩).run P w=.ok u w/\bq w aX B r u:=by
 unfold q9 at h
 split at h
 ·rename_i zn
  cases h;subst zn;refine⟨.agg vs.toArray,?_,.agg bZ.1 bZ.2⟩;have:=cg.load (P:=P);rw[bZ.1,av] at this;simp[loadVar,NV aM,va U,this]
 ·rename_i zn
  split at h
  ·cases h;obtain⟨u,hu,aa⟩:=bZ.get (i:=0) (m:=r) rfl;have:=cg 0 u hu;have Tj:dS=false:=by simpa using zn
   subst Tj;exact⟨u,by simp[loadVar,NV aM,this];simpa using by rw[show off=off+0 from rfl,this],aa⟩
  ·cases h
end
section
variable {P:Program} {A:Nat->Prop} {w:World} {B:e5} {mem:Mem}
theorem fr.at_ (h:fr A w B mem){k:Key}{g:Nat}{cs:List Q}(M:mem k=some (g,cs)):
  ∃e,B k=some e/\e.g=g/\(e.dz=none->cs=[])/\∀b,e.dz=some b->∃(vs:Array Value) (T:TypeId),w.heap[b]?=some (.cells vs T (0,0))/\vs.size=e.size/\D cs<=vs.size /\
   dq w (cb A B) B cs (vs.toList.take (D cs)):=by
 obtain⟨e,he,a9,aH,ae⟩:=h.dz k g cs M;refine⟨e,he,a9,aH,λb jU=>?_⟩;obtain⟨vs,T,E,H,af,aP⟩:=ae b jU;refine⟨vs,T,E,H,af,by simp;omega,λi m v hm ak=>?_⟩
 obtain⟨u,hu,aa⟩:=aP i m hm;rw[u9] at ak
 split at ak
 ·rw[Array.getElem?_toList,hu] at ak
  cases ak;exact aa
 ·cases ak
theorem ac3 {n:Nat}{dS:Bool}{m r:Q}{v:Value}(b0:fr A w B mem)(ak:bq w (cb A B) B m v)(h:qj mem n dS m=some r):
  ∃b off ms vs,v=.pointer (some ⟨b,off,none⟩)/\D ms=n/\dq w (cb A B) B ms vs/\eI w b off vs/\q9 dS ms=some r:=by
 unfold qj at h
 split at h
 ·rename_i k g off
  split at h
  ·rename_i c0 cs M
   split at h
   ·rename_i a9;subst a9;simp only[er] at h;obtain⟨ms,aN,aa⟩:=h;obtain⟨av,rfl,aH⟩:=FJ aN;obtain⟨e,he,b2,Dh,ae⟩:=b0.at_ M
    cases ak with
    |ptr gz JL lA =>
     rw[he] at gz
     cases gz;obtain⟨b,rfl,jU⟩:=lA;have jU:=jU b2.symm;obtain⟨vs,T,aT,aW,hle,bZ⟩:=ae b jU;refine⟨b,off,_,((vs.toList.take (D cs)).drop off).take n,rfl,aH,(bZ.drop off).take n,?_,aa⟩;have:=(((eI.row aT).take (D cs)).add off).take n
     simpa using this
   ·cases h
  ·cases h
 ·rename_i ds;simp only[er] at h;obtain⟨ms,aN,aa⟩:=h;obtain⟨av,rfl,aH⟩:=FJ aN
  cases ak with
  |I Y =>
   cases Y with
   | @ptr cs b off val ae fJ G Y =>
    refine⟨b,off,_,((dU (D ds)).map val).take n,rfl,aH,?_,?_,aa⟩
    ·have:dq w (cb A B) B (ds.map .I) ((dU (D ds)).map val):=dq.I (by simp) λi d v E H=>by
      have J:i<D ds:=(dP.1 E).1;simp[J] at H;subst H;exact Y i d E
     simpa using this.take n
    ·refine eI.take (λj u ah=>?_) n;simp only[bh,dY] at ah;obtain⟨lW,pL,rfl⟩:=ah
     have E:lW=j/\j<D ds:=by
      rcases ir j (D ds) with h|h
      ·rw[tn h] at pL;exact⟨by simpa using pL.symm,h⟩
      ·rw[mx (by simpa using h)] at pL
       cases pL
     obtain⟨rfl,jm⟩:=E;exact G lW jm
 ·cases h
theorem aoE {t:TypeId}{n:Nat}{dS:Bool}{m r:Q}{v:Value}(U:gn P t=some n)(aM:zf P t=some dS)(b0:fr A w B mem)(ak:bq w (cb A B) B m v)(h:qj mem n dS m=some r):
  ∃u,(Instr.loadAt t v).run P w=.ok u w/\bq w (cb A B) B r u:=by
 obtain⟨b,off,ms,vs,rfl,av,bZ,cg,aa⟩:=ac3 b0 ak h;obtain⟨u,E,H⟩:=ac2 (P:=P) U aM av bZ cg aa;exact⟨u,by simpa [Instr.loadAt,Instr.sureAddr] using E,H⟩
end
section
variable {P:Program} {w:World} {aX:Nat->Prop} {B:e5}
theorem ac4 {m:Q}{cs:List Q}{v:Value}(h:Jn m=some cs)(ak:bq w aX B m v):∃vs:List Value,v=.agg vs.toArray/\dq w aX B cs vs:=by
 unfold Jn at h
 split at h
 ·cases h
  cases ak with
  |agg av Y=>exact⟨_,rfl,av,Y⟩
 ·cases h
  cases ak with
  |I Y =>
   cases Y with
   |agg av Y=>exact⟨_,rfl,dq.I av Y⟩
 ·cases h
theorem ac5 {neg:Bool}{gZ:List Nat}{m n r:Q}{u v:Value}(t:TypeId)(x y:Operand)(dI:Array Field)(hu:P.underlying t=some (.struct dI))(U:P.stoodInHeld t=false)
  (a9:P.eqGuardType P.depth t=false) (M:FB P 0 dI.toList=some gZ) (hm:bq w aX B m u) (aH:bq w aX B n v) (h:Jo neg gZ m n=some r) :
  ∃z,((do eqGuard (if neg then .neq else .eql) t x y u v;binOp (if neg then .neq else .eql) t u v:Sem Value)).run P w=.ok z w/\bq w aX B r z:=by
 unfold Jo at h
 split at h
 ·rename_i cs ds k1 ha
  split at h
  ·rename_i c G
   cases h;obtain⟨xs,rfl,O⟩:=ac4 k1 hm;obtain⟨ys,rfl,ar⟩:=ac4 ha aH;have vb:P.fieldsOf t=dI:=by simp[Program.fieldsOf,hu]
   have he:=run_equalIn_struct (P:=P) w 9999 t xs.toArray ys.toArray (by rw[vb];exact hu) U;rw[vb] at he
   have aK:=ac0 (P:=P) (w:=w) (aX:=aX) (B:=B) (d:=9998) (xs:=xs.toArray) (ys:=ys.toArray) (cs:=cs) (ds:=ds)
    (λi m v E H=>O.2 i m v E (by simpa using H)) (by simpa using O.1) (λi m v E H=>ar.2 i m v E (by simpa using H)) (by simpa using ar.1) dI.toList 0 gZ c M (by simpa using G)
   have heq:(Op.equal t (.agg xs.toArray) (.agg ys.toArray)).run P w=.ok c w:=by
    show (Op.equalIn (9999+1) t _ _).run P w=_;rw[he];exact aK
   have wy:∀op,(op=BinOp.eql\/op=.neq)->(eqGuard op t x y (.agg xs.toArray) (.agg ys.toArray)).run P w=.ok () w:=by
    intro op m0;rcases m0 with rfl|rfl<;>simp[eqGuard,a9]
   refine⟨.bool (neg != c),?_,.I .bool⟩
   cases neg
   ·simp only[k0,if_false,Sem.run_bind,wy _ (.inl rfl),Result.andThen_ok];show (do pure (Value.bool (<-Op.equal t (.agg xs.toArray) (.agg ys.toArray))):Sem Value).run P w=_
    simp[heq]
   ·simp only[if_true,Sem.run_bind,wy _ (.inr rfl),Result.andThen_ok];show (do pure (Value.bool (!(<-Op.equal t (.agg xs.toArray) (.agg ys.toArray)))):Sem Value).run P w=_
    simp[heq]
  ·cases h
 ·cases h
theorem aoF {c a b r:Q}{ac6 vc si:Value}(G:bq w aX B c ac6)(aM:bq w aX B a vc)(ae:bq w aX B b si)(h:Ft c a b=some r):
  ∃z,(do pure (if <-asBool ac6 then vc else si):Sem Value).run P w=.ok z w/\bq w aX B r z:=by
 unfold Ft at h
 split at h
 ·rename_i t
  cases G.Dd
  cases t
  ·cases h;exact⟨si,by simp[asBool],ae⟩
  ·cases h;exact⟨vc,by simp[asBool],aM⟩
 ·cases h
theorem aoG {op:UnOp}{m r:Q}{v:Value}(hm:bq w aX B m v)(h:Jl op m=some r):∃z,(Op.unary op v).run P w=.ok z w/\bq w aX B r z:=by
 unfold Jl at h
 split at h
 ·cases h;cases hm.xW;exact⟨_,by simp[Op.unary,Op.intArith],.I .int⟩
 ·cases h;cases hm.xW;exact⟨_,by simp[Op.unary,go_sem],.I .int⟩
 ·cases h;cases hm.Dd;exact⟨_,by simp[Op.unary],.I .bool⟩
 ·cases h
theorem aoH {k:IntKind}{m r:Q}{v:Value}(s t:TypeId)(gZ:IntKind)(U:P.underlying s=some (.int gZ))(bA:P.underlying t=some (.int k))(hm:bq w aX B m v)(h:Jp k m=some r):
  ∃z,(convert s t v).run P w=.ok z w/\bq w aX B r z:=by
 unfold Jp at h
 split at h
 ·cases h
  cases hm.xW;have J:P.intKind t=k:=by simp[Program.intKind,bA]
  have:=run_convert_int (P:=P) w s t;exact⟨.int k _,by simp[convert,run_underlying U,run_underlying bA,Conv.intToInt],.I .int⟩
 ·cases h
theorem aoI {off:Nat}{m r:Q}{v:Value}(t:TypeId)(f:Nat)(dI:Array Field)(fd:Field)(s:Nat)(hu:P.underlying t=some (.struct dI))(aK:dI[f]?=some fd)(U:gn P fd.type=some s)(ao:0<s)
  (bL:fd.offset=off) (hm:bq w aX B m v) (h:Jr off m=some r):∃z,(Instr.fieldAt t v f).run P w=.ok z w/\bq w aX B r z:=by
 have bI:¬ s=0:=by omega
 have run:∀b o,(Instr.fieldAt t (.pointer (some ⟨b,o,none⟩)) f).run P w=.ok (.pointer (some ⟨b,o+off,none⟩)) w:=by
  intro b o;simp[Instr.fieldAt,run_underlying hu,aK,Instr.sureAddr,fieldPlace,va U,bI,zm,bL]
 unfold Jr at h
 split at h
 ·cases h;rename_i k g o
  cases hm with
  |ptr he a9 ak =>
   obtain⟨b,rfl,ae⟩:=ak;exact⟨_,run b o,.ptr he a9 ⟨b,rfl,ae⟩⟩
 ·rename_i ds
  split at h
  ·rename_i av
   cases h
   cases hm with
   |I Y =>
    cases Y with
    | @ptr cs b o val ae fJ G Y =>
     refine⟨_,run b o,.I (.ptr (λi=>val (off+i)) ae fJ (λi J=>?_) λi d k2=>Y _ d (by simpa using k2))⟩;have:=G (off+i) (by simp at J;omega);rwa [<-qp] at this
  ·cases h
 ·cases h
theorem aoJ {t:TypeId}{n off:Nat}{dS:Bool}{cs ms:List Q}{vs:List Value}{r:Q}(U:gn P t=some n)(aM:zf P t=some dS)(bZ:dq w aX B cs vs)(G:cut cs off n=some ms)(h:q9 dS ms=some r):
  ∃u,(part t vs.toArray off).run P w=.ok u w/\bq w aX B r u:=by
 obtain⟨av,rfl,aH⟩:=FJ G;have bC:=(bZ.drop off).take n;unfold q9 at h
 split at h
 ·rename_i zn
  cases h;subst zn;refine⟨.agg ((vs.drop off).take n).toArray,?_,.agg bC.1 bC.2⟩
  have e:vs.toArray.extract off (off+n)=((vs.drop off).take n).toArray:=by
   simp[List.extract_eq_take_drop]
  simp[part,NV aM,va U,e]
 ·rename_i zn;have Tj:dS=false:=by simpa using zn
  subst Tj
  split at h
  ·rename_i m aN
   cases h
   have J:cs[off]?=some r:=by
    have:=congrArg (λl=>l[0]?) aN;simp[u9] at this;exact this.2
   obtain⟨u,hu,aoK⟩:=bZ.get J;exact⟨u,by simp[part,NV aM,hu],aoK⟩
  ·cases h
theorem aoL {off n:Nat}{dS:Bool}{m r:Q}{v:Value}(t:TypeId)(f:Nat)(dI:Array Field)(fd:Field)(hu:P.underlying t=some (.struct dI))(aK:dI[f]?=some fd)(U:gn P fd.type=some n)
  (aM:zf P fd.type=some dS) (bL:fd.offset=off) (hm:bq w aX B m v) (h:Js off n dS m=some r):∃z,(Instr.field t v f).run P w=.ok z w/\bq w aX B r z:=by
 subst bL
 have go:∀(cs:List Q) (vs:List Value),dq w aX B cs vs->(cut cs fd.offset n).bind (q9 dS)=some r->∃z,(Instr.field t (.agg vs.toArray) f).run P w=.ok z w/\bq w aX B r z:=by
  intro cs vs bZ aT;simp only[er] at aT;obtain⟨ms,E,H⟩:=aT;obtain⟨u,af,aP⟩:=aoJ (P:=P) U aM bZ E H;exact⟨u,by simp[Instr.field,run_underlying hu,aK,asAgg,af],aP⟩
 unfold Js at h
 split at h
 ·cases hm with
  |agg av Y=>exact go _ _ ⟨av,Y⟩ h
 ·cases hm with
  |I Y =>
   cases Y with
   |agg av Y=>exact go _ _ (dq.I av Y) h
 ·cases h
theorem FK {m:Q}{n:Nat}{v:Value}(h:idx m=some n)(ak:bq w aX B m v):∃k,v=.int k (n:Int):=by
 unfold idx at h
 split at h
 ·rename_i k i
  split at h
  ·rename_i ao
   cases h
   cases ak.xW;exact⟨k,by rw[Int.toNat_of_nonneg ao]⟩
  ·cases h
 ·cases h
theorem Fq.at_ {e:mr}{g sz off len:Nat}{v:Value}(h:Fq e g sz off len v)(ao:0<len):∃b cap,v=.slice (some ⟨b,off,none⟩) len cap/\len<=cap/\cap<=maxLen/\(g=e.g->e.dz=some b/\off+cap*sz<=e.size):=by
 obtain⟨a,cap,rfl,H,af,aP⟩:=h;rcases aP with aP|⟨b,rfl,bt⟩
 ·omega
 ·exact⟨b,cap,rfl,H,af,bt⟩
theorem aoM {es:List (List Data)}{sz:Nat}(e4:∀e∈es,D e=sz):∀(n i:Nat) (e:List Data),es[n]?=some e->i<sz->es.flatten[n*sz+i]?=e[i]?:=by
 induction es with
 |nil=>intro n i e h;simp at h
 |cons a r aA =>
  intro n i e h J;have aM:=e4 a (by simp)
  cases n with
  |zero =>
   simp at h;subst h;rw[jP,qq (by omega)];simp
  |succ n =>
   rw[jP,ri (by rw[aM,tp];omega)];have:=aA (λx O=>e4 x (by simp[O])) n i e (by simpa using h) J;rw[<-this,aM]
   congr 1
   rw[tp];omega
theorem aoN {sz n:Nat}{m r:Q}{v:Value}{k:IntKind}(t e:TypeId)(hu:P.underlying t=some (.slice e))(U:gn P e=some sz)(hm:bq w aX B m v)(h:zd sz n m=some r):
  ∃z,(Instr.indexAt t v (.int k (n:Int))).run P w=.ok z w/\bq w aX B r z:=by
 have run:∀b off len cap,n<len->(Instr.indexAt t (.slice (some ⟨b,off,none⟩) len cap) (.int k (n:Int))).run P w=.ok (.pointer (some ⟨b,off+n*sz,none⟩)) w:=by
  intro b off len cap az;simp[Instr.indexAt,run_underlying hu,asIntOf,az,va U,zm]
 unfold zd at h
 split at h
 ·split at h
  ·rename_i av;obtain⟨az,rfl⟩:=av
   cases h
   cases hm with
   |ref he a9 ak =>
    obtain⟨b,cap,rfl,E,H,af⟩:=ak.at_ (by omega);exact⟨_,run _ _ _ _ az,.ptr he a9 ⟨b,rfl,λh=>(af h).1⟩⟩
  ·cases h
 ·rename_i es
  split at h
  ·rename_i el k3
   split at h
   ·rename_i hle
    cases h
    cases hm with
    |I Y =>
     have az:n<D es:=(dP.1 k3).1
     cases Y with
     |lV=>simp at az
     | @X es b off c ev val av ac7 ae fJ e4 G Y =>
      have JM:ev=sz:=by rw[<-hle];exact (e4 _ (eg k3)).symm
      subst JM
      have hmul:n*ev+ev<=D es*ev:=by
       have:(n+1)*ev<=D es*ev:=vd _ az;rwa [qh,xM] at this
      refine⟨_,run _ _ _ _ az,.I (.ptr (λi=>val (n*ev+i)) ae fJ (λi J=>?_) λi d k2=>?_)⟩
      ·have:=G (n*ev+i) (by omega);rwa [<-qp] at this
      ·refine Y _ d ?_;rw[aoM e4 n i el k3 (by have:=(dP.1 k2).1;omega)];exact k2
   ·cases h
  ·cases h
 ·cases h
theorem aoO {len sz n:Nat}{m r:Q}{v:Value}{k:IntKind}(t e:TypeId)(hu:P.underlying t=some (.array len e))(U:gn P e=some sz)(hm:bq w aX B m v)(h:Jt len sz n m=some r):
  ∃z,(Instr.indexAt t v (.int k (n:Int))).run P w=.ok z w/\bq w aX B r z:=by
 have run:∀b off,n<len->(Instr.indexAt t (.pointer (some ⟨b,off,none⟩)) (.int k (n:Int))).run P w=.ok (.pointer (some ⟨b,off+n*sz,none⟩)) w:=by
  intro b off az;simp[Instr.indexAt,run_underlying hu,asIntOf,Instr.sureAddr,az,va U,zm]
 unfold Jt at h
 split at h
 ·split at h
  ·rename_i az
   cases h
   cases hm with
   |ptr he a9 ak =>
    obtain⟨b,rfl,ae⟩:=ak;exact⟨_,run _ _ az,.ptr he a9 ⟨b,rfl,ae⟩⟩
  ·cases h
 ·rename_i ds
  split at h
  ·rename_i av;obtain⟨az,hle⟩:=av
   cases h
   cases hm with
   |I Y =>
    cases Y with
    | @ptr cs b o val ae fJ G Y =>
     refine⟨_,run _ _ az,.I (.ptr (λi=>val (n*sz+i)) ae fJ (λi J=>?_) λi d k2=>Y _ d (by simpa using k2))⟩;have:=G (n*sz+i) (by simp at J;omega);rwa [<-qp] at this
  ·cases h
 ·cases h
theorem aoP {n:Nat}{m r:Q}{v:Value}{k:IntKind}(t:TypeId)(hu:P.underlying t=some .string)(hm:bq w aX B m v)(h:Ju n m=some r):
  ∃z,(Instr.index t v (.int k (n:Int))).run P w=.ok z w/\bq w aX B r z:=by
 unfold Ju at h
 split at h
 ·rename_i s;simp only[dY] at h;obtain⟨b,ae,rfl⟩:=h
  cases hm.De;have az:n<D s:=(dP.1 ae).1
  have e:(ByteArray.mk s.toArray)[n]?=some b:=by
   rw[ByteArray.getElem?_lt' _ _ (by simpa [ByteArray.size] using az)];have:=(dP.1 ae).2;simp only[cm];rw[<-this]
   rfl
  exact⟨.int .u8 b.toNat,by simp[Instr.index,run_underlying hu,asIntOf,e],.I .int⟩
 ·cases h
theorem aoQ {i:Nat}{m r:Q}{v:Value}(hm:bq w aX B m v)(h:Jy i m=some r):∃z,(Instr.extract v i).run P w=.ok z w/\bq w aX B r z:=by
 unfold Jy at h
 split at h
 ·cases hm with
  |cH av Y =>
   obtain⟨u,hu,aa⟩:=dq.get ⟨av,Y⟩ h;exact⟨u,by simp[Instr.extract,hu],aa⟩
 ·simp only[dY] at h;obtain⟨d,nn,rfl⟩:=h
  cases hm with
  |I Y =>
   cases Y with
   |cH av Y =>
    obtain⟨u,hu,aa⟩:=dq.get (dq.I av Y) (i:=i) (m:=.I d) (by simp[nn]);exact⟨u,by simp[Instr.extract,hu],aa⟩
 ·cases h
theorem aoR {m:Q}{n:Nat}{v:Value}(t ty e:TypeId)(bA:P.underlying t=some (.slice e))(hm:bq w aX B m v)(h:qi m=some n):
  (Builtin.len_ #[t] ty #[v]).run P w=.ok (.int .i64 n) w:=by
 have run:∀a c,(Builtin.len_ #[t] ty #[.slice a n c]).run P w=.ok (.int .i64 n) w:=λa c=>by
  simp[Builtin.len_,run_underlying bA,goInt]
 unfold qi at h
 split at h<;>cases h
 ·cases hm with
  |I Y =>
   cases Y with
   |lV=>exact run _ _
   |X=>exact run _ _
 ·cases hm with
  |nil=>exact run _ _
 ·cases hm with
  |ref he a9 ak=>obtain⟨a,cap,rfl,_⟩:=ak;exact run _ _
theorem aoS {m:Q}{n:Nat}{v:Value}(t ty:TypeId)(bA:P.underlying t=some .string)(hm:bq w aX B m v)(h:zc m=some n):
  (Builtin.len_ #[t] ty #[v]).run P w=.ok (.int .i64 n) w:=by
 unfold zc at h
 split at h<;>cases h
 rename_i s
 cases hm.De;have e:(ByteArray.mk s.toArray).size=D s:=by simp[ByteArray.size]
 simp[Builtin.len_,run_underlying bA,goInt,e]
theorem ac8 {kq:Bool}{m n r:Q}{u v:Value}(tq:Array TypeId)(t:TypeId)(hm:bq w aX B m u)(aH:bq w aX B n v)(h:Jz kq m n=some r):
  ∃z,(if kq=true then Builtin.max_ tq t #[u,v] else Builtin.min_ tq t #[u,v]).run P w=.ok z w/\bq w aX B r z:=by
 unfold Jz at h
 split at h
 ·split at h
  ·rename_i M;subst M
   cases h
   cases hm.xW
   cases aH.xW
   cases kq
   ·exact⟨_,by simp[run_min_int2],.I .int⟩
   ·exact⟨_,by simp[run_max_int2],.I .int⟩
  ·cases h
 ·cases h
theorem aoT {m r:Q}{v:Value}(hm:bq w aX B m v)(h:Jq m=some r):(∃b off,v=.pointer (some ⟨b,off,none⟩))/\bq w aX B r v:=by
 unfold Jq at h
 split at h
 ·cases h;refine⟨?_,hm⟩
  cases hm with
  |ptr he a9 ak=>obtain⟨b,rfl,_⟩:=ak;exact⟨_,_,rfl⟩
 ·cases h;refine⟨?_,hm⟩
  cases hm with
  |I Y=>cases Y;exact⟨_,_,rfl⟩
 ·cases h
theorem FL {x:Q}{n y:Nat}{v:Value}(code:BoundsCode)(O:idx x=some n)(ak:bq w aX B x v)(aH:n<=y):(Instr.sliceBound v y code).run P w=.ok n w:=by
 obtain⟨k,rfl⟩:=FK O ak
 simpa using run_sliceBound (P:=P) w k (n:Int) y code (by omega) (by omega)
def rj (w:World)(aX:Nat->Prop)(B:e5):Option Q->Option Value->Prop
 |none,none=>True
 |some m,some v=>bq w aX B m v
 |_,_=>False
theorem Tk {len cap l h:Nat}{cx J:Option Q}{k4 k5:Option Value}(Tl:Bool)(fV:jR 0 cx=some l)(jn:jR len J=some h)
  (m1:rj w aX B cx k4) (lX:rj w aX B J k5) (av:l<=h) (aT:h<=cap):(Instr.sliceBounds Tl len cap k4 k5 none).run P w=.ok (l,h,cap) w:=by
 unfold Instr.sliceBounds
 cases cx with
 |none =>
  cases k4 with
  |some v=>exact m1.elim
  |none =>
   simp[jR] at fV;subst fV
   cases J with
   |none =>
    cases k5 with
    |some v=>exact lX.elim
    |none=>simp[jR] at jn;subst jn;simp
   |some m =>
    cases k5 with
    |none=>exact lX.elim
    |some v =>
     have aB:=λcode=>FL (P:=P) (y:=cap) code jn lX aT
     cases Tl<;>simp[aB]
 |some Di =>
  cases k4 with
  |none=>exact m1.elim
  |some bc =>
   have ay:=λcode=>FL (P:=P) (y:=h) code fV m1 av
   cases J with
   |none =>
    cases k5 with
    |some v=>exact lX.elim
    |none=>simp[jR] at jn;subst jn;simp[ay]
   |some m =>
    cases k5 with
    |none=>exact lX.elim
    |some v =>
     have aB:=λcode=>FL (P:=P) (y:=cap) code jn lX aT
     cases Tl<;>simp[ay,aB]
theorem aoU {len cap l h m:Nat}{cx:Option Q}{J kq:Q}{k4:Option Value}{k5 zo:Value}(fV:jR 0 cx=some l)(jn:idx J=some h)(ia:idx kq=some m)
  (m1:rj w aX B cx k4) (lX:bq w aX B J k5) (FM:bq w aX B kq zo) (av:l<=h) (aT:h<=m) (hm:m<=cap):(Instr.sliceBounds true len cap k4 (some k5) (some zo)).run P w=.ok (l,h,m) w:=by
 have bm:=FL (P:=P) (y:=cap) .slice3Acap ia FM hm;have aB:=FL (P:=P) (y:=m) .slice3B jn lX aT;unfold Instr.sliceBounds
 cases cx with
 |none =>
  cases k4 with
  |some v=>exact m1.elim
  |none =>
   simp[jR] at fV;subst fV;simp[bm,aB]
 |some Di =>
  cases k4 with
  |none=>exact m1.elim
  |some bc =>
   have ay:=FL (P:=P) (y:=h) .slice3C fV m1 av;simp[bm,aB,ay]
theorem NW {m:Q}{n:Nat}{v:Value}(hm:bq w aX B m v)(h:qi m=some n):∃a c,v=.slice a n c/\n<=c:=by
 unfold qi at h
 split at h<;>cases h
 ·cases hm with
  |I Y =>
   cases Y with
   |lV=>exact⟨_,_,rfl,by simp⟩
   |X val av=>exact⟨_,_,rfl,av⟩
 ·cases hm with
  |nil=>exact⟨_,_,rfl,by simp⟩
 ·cases hm with
  |ref he a9 ak=>obtain⟨a,cap,rfl,E,_⟩:=ak;exact⟨_,_,rfl,E⟩
theorem ac9 {t e:TypeId}{sz l h iK:Nat}{a:Option Addr}{len cap:Nat}{k4 k5 zo:Option Value}(bA:P.underlying t=some (.slice e))(U:gn P e=some sz)
  (ae:(Instr.sliceBounds true len cap k4 k5 zo).run P w=.ok (l,h,iK) w) :
  (Instr.sliceAt t (.slice a len cap) k4 k5 zo).run P w=.ok (.slice (if iK=l then a else a.map (·.add (l*sz))) (h-l) (iK-l)) w:=by
 simp[Instr.sliceAt,Instr.slice,run_underlying bA,ae,va U]
theorem aoV {es:List (List Data)}{sz:Nat}(e4:∀e∈es,D e=sz)(l:Nat):(es.drop l).flatten=es.flatten.drop (l*sz):=by
 induction es generalizing l with
 |nil=>simp
 |cons a r aA =>
  cases l with
  |zero=>simp
  |succ l =>
   have aM:=e4 a (by simp);rw[List.drop_succ_cons,aA (λx O=>e4 x (by simp[O])) l,jP,List.drop_append,aM];have E:a.drop ((l+1)*sz)=[]:=jV (by rw[aM,tp];omega);rw[E,List.nil_append]
   congr 1
   rw[tp];omega
theorem aoW {es:List (List Data)}{sz:Nat}(e4:∀e∈es,D e=sz)(l:Nat):(es.take l).flatten=es.flatten.take (l*sz):=by
 induction es generalizing l with
 |nil=>simp
 |cons a r aA =>
  cases l with
  |zero=>simp
  |succ l =>
   have aM:=e4 a (by simp);rw[List.take_succ_cons,jP,aA (λx O=>e4 x (by simp[O])) l,jP,Dj,aM];have E:a.take ((l+1)*sz)=a:=dx (by rw[aM,tp];omega);rw[E]
   congr 2
   rw[tp];omega
theorem ada {es:List (List Data)}{a:Option Addr}{len c sz l h cc:Nat}(Y:Den w aX (.X es) (.slice a len c))(av:l<=h)(aT:h<=D es)(e4:0<(D es)->∀e∈es,D e=sz)(G:h-l<=cc):
  l=h\/Den w aX (.X ((es.take h).drop l)) (.slice (a.map (·.add (l*sz))) (h-l) cc):=by
 rcases NX av with rfl|az
 ·exact .inl rfl
 ·refine .inr ?_
  cases Y with
  |lV=>simp at aT;omega
  | @X es b off c ev val NU hm ae fJ hsz' pd Ba =>
   have ib:0<D es:=by omega
   have JM:ev=sz:=by
    have ao:=np (l:=es) (n:=0) ib;rw[<-hsz' _ ao,e4 ib _ ao]
   subst JM;have hlen:((es.take h).drop l).length=h-l:=by simp;omega
   have hmul:l*ev+(h-l)*ev<=D es*ev:=by
    rw[<-qh];exact vd _ (by omega)
   have:=Den.X (w:=w) (aX:=aX) (es:=(es.take h).drop l) (b:=b) (off:=off+l*ev) (c:=cc) (sz:=ev) (λi=>val (l*ev+i)) (by rw[hlen];exact G) (by rw[hlen];omega) ae fJ
    (λe he=>hsz' e (FN (List.mem_of_mem_drop he)))
    (λi J=>by
     rw[hlen] at J;have:=pd (l*ev+i) (by omega);rwa [<-qp] at this)
    (λi d k2=>by
     refine Ba _ d ?_;rw[aoV (λe he=>hsz' e (FN he)) l,aoW hsz' h] at k2;rw[lB,u9] at k2
     split at k2
     ·exact k2
     ·cases k2)
   rw[hlen] at this
   simpa [zm] using this
end
section
variable {P:Program} {w:World} {aX:Nat->Prop} {B:e5}
theorem Tm {sz:Nat}{es:List (List Data)}(h:nT sz es=true):∀e∈es,D e=sz:=λe he=>by
 simpa using nq.1 h e he
theorem aoX {t e:TypeId}{sz l h len:Nat}{m r:Q}{v:Value}{k4 k5:Option Value}{cx J:Option Q}(bA:P.underlying t=some (.slice e))(U:gn P e=some sz)
  (fV:jR 0 cx=some l) (hlen:qi m=some len) (jn:jR len J=some h) (m1:rj w aX B cx k4) (lX:rj w aX B J k5) (hm:bq w aX B m v) (aa:Jv sz l h m=some r) :
  ∃z,(Instr.sliceAt t v k4 k5 none).run P w=.ok z w/\bq w aX B r z:=by
 obtain⟨a,cap,rfl,FO⟩:=NW hm hlen
 have run:l<=h->h<=len->(Instr.sliceAt t (.slice a len cap) k4 k5 none).run P w=.ok (.slice (if cap=l then a else a.map (·.add (l*sz))) (h-l) (cap-l)) w:=λE H =>
  ac9 bA U (Tk true fV jn m1 lX E (by omega))
 unfold Jv at aa
 split at aa
 ·rename_i es
  split at aa
  ·rename_i G;obtain⟨E,H,af⟩:=G
   cases aa;simp only[qi,cm] at hlen;subst hlen;refine⟨_,run E H,.I ?_⟩
   cases hm with
   |I Y =>
    rcases ada (sz:=sz) Y E H (λ_=>Tm af) (cc:=cap-l) (by omega) with rfl|aF
    ·rw[show ((es.take l).drop l)=[] from by simp]
     rw[my];exact .lV
    ·rcases NX E with rfl|az
     ·rw[show ((es.take l).drop l)=[] from by simp]
      rw[my];exact .lV
     ·rw[ag (by omega)];exact aF
  ·cases aa
 ·split at aa
  ·rename_i G;obtain⟨rfl,rfl⟩:=G
   cases aa
   cases hm with
   |nil=>exact⟨_,run (by omega) (by omega),by simpa using bq.nil⟩
  ·cases aa
 ·split at aa
  ·rename_i k g ev off Tn G;obtain⟨rfl,E,H⟩:=G
   cases aa;simp only[qi,cm] at hlen;subst hlen
   cases hm with
   |ref he a9 ak =>
    refine⟨_,run E H,.ref he a9 ?_⟩;obtain⟨kI,aHb,oH,oI,aHc,aoY⟩:=ak
    injection oH with ay aB bG
    subst ay;subst bG
    refine⟨_,cap-l,rfl,by omega,by omega,?_⟩
    rcases k6 (cap-l) with ao|ao
    ·exact .inl ao
    ·refine .inr ?_;rcases aoY with aP|⟨b,rfl,bt⟩
     ·omega
     ·refine⟨b,by rw[ag (by omega)];simp[zm],λb2=>?_⟩
      obtain⟨bU,bM⟩:=bt b2;refine⟨bU,?_⟩;rw[qp,<-qh];rwa [show l+(cap-l)=cap from by omega]
  ·cases aa
 ·cases aa
theorem aoZ {t e:TypeId}{sz l h iK:Nat}{m r:Q}{v:Value}{k4:Option Value}{k5 zo:Value}{cx:Option Q}{J kq:Q}(bA:P.underlying t=some (.slice e))(U:gn P e=some sz)
  (fV:jR 0 cx=some l) (jn:idx J=some h) (ia:idx kq=some iK) (m1:rj w aX B cx k4) (lX:bq w aX B J k5) (FM:bq w aX B kq zo) (hm:bq w aX B m v) (aa:Jw sz l h iK m=some r) :
  ∃z,(Instr.sliceAt t v k4 (some k5) (some zo)).run P w=.ok z w/\bq w aX B r z:=by
 have run:∀a len cap,l<=h->h<=iK->iK<=len->len<=cap->(Instr.sliceAt t (.slice a len cap) k4 (some k5) (some zo)).run P w=.ok (.slice (if iK=l then a else a.map (·.add (l*sz))) (h-l) (iK-l)) w :=
  λa len cap E H af aP=>ac9 bA U (aoU fV jn ia m1 lX FM E H (by omega))
 unfold Jw at aa
 split at aa
 ·rename_i es
  split at aa
  ·rename_i G;obtain⟨E,H,af,aP⟩:=G;obtain⟨a,cap,rfl,FO⟩:=NW hm (n:=D es) rfl;refine⟨_,run a _ cap E H af FO,?_⟩
   split at aa
   ·rename_i mz
    cases aa;subst mz;have:h=iK:=by omega
    subst this
    simpa using bq.nil
   ·rename_i mz
    cases aa;rw[ag mz]
    cases hm with
    |I Y =>
     refine .I ?_;rcases NX E with rfl|az
     ·rw[show ((es.take l).drop l)=[] from by simp]
      rw[my];exact .lV
     ·rcases ada (sz:=sz) Y E (by omega) (λ_=>Tm aP) (cc:=iK-l) (by omega) with ao|aF
      ·omega
      ·exact aF
  ·cases aa
 ·split at aa
  ·rename_i G;obtain⟨rfl,rfl,rfl⟩:=G
   cases aa;obtain⟨a,cap,rfl,FO⟩:=NW hm (n:=0) rfl;exact⟨_,run a _ cap (by omega) (by omega) (by omega) FO,by simpa using bq.nil⟩
  ·cases aa
 ·rename_i k g ev off len
  split at aa
  ·rename_i G;obtain⟨E,H,af,rfl⟩:=G
   cases aa;obtain⟨a,cap,rfl,FO⟩:=NW hm (n:=len) rfl;have:h=iK:=by omega
   subst this;exact⟨_,run a _ cap (by omega) (by omega) (by omega) FO,by simpa using bq.nil⟩
  ·cases aa
 ·cases aa
theorem ao0 {t:TypeId}{l h len:Nat}{m r:Q}{v:Value}{k4 k5:Option Value}{cx J:Option Q}(bA:P.underlying t=some .string)
  (fV:jR 0 cx=some l) (hlen:zc m=some len) (jn:jR len J=some h) (m1:rj w aX B cx k4) (lX:rj w aX B J k5) (hm:bq w aX B m v) (aa:Jx l h m=some r) :
  ∃z,(Instr.sliceAt t v k4 k5 none).run P w=.ok z w/\bq w aX B r z:=by
 unfold Jx at aa
 split at aa
 ·rename_i s
  split at aa
  ·rename_i G;obtain⟨E,H⟩:=G
   cases aa;simp only[zc,cm] at hlen;subst hlen
   cases hm.De;have e:(ByteArray.mk s.toArray).size=D s:=by simp[ByteArray.size]
   have ae:=Tk (P:=P) (w:=w) (aX:=aX) (B:=B) (cap:=D s) false fV jn m1 lX E H
   have O:(ByteArray.mk s.toArray).extract l h=⟨((s.take h).drop l).toArray⟩:=by
    rw[ByteArray.extract_mk,adb]
   exact⟨.string ⟨((s.take h).drop l).toArray⟩,by simp[Instr.sliceAt,Instr.slice,run_underlying bA,e,ae,O],.I .str⟩
  ·cases aa
 ·cases aa
theorem ade (off:Nat):∀(l:List Value) (k:Nat) (cs:Array Value),off+k+D l<=cs.size ->
  (l.zipIdx k).foldl (λ(cs:Array Value) (p:Value×Nat)=>cs.setIfInBounds (off+p.2) p.1) cs=(cs.toList.take (off+k)++l++cs.toList.drop (off+k+D l)).toArray
 | [],k,cs,_=>by simp
 |a::l,k,cs,h=>by
  rw[List.zipIdx_cons,Bb];have cn:off+k<cs.size:=by simp at h;omega
  rw[ade off l (k+1) (cs.setIfInBounds (off+k) a) (by simp at h ⊢;omega)];apply Array.ext';simp only[Array.toList_setIfInBounds];have:=list_seg_step cs.toList (off+k) a l (by simp at h ⊢;omega)
  simpa [qp] using this
theorem NY {place:Nat->Option (Nat×Nat)}{ρ:Operand->Value}{tm:Nat->Q}(hρ:∀x y,dH x=some y->bq w aX B (a3 tm y) (ρ x)):
  ∀(ps:List (Nat×Operand)) (eB:List (Nat×Nat×bS)) (cs r:List Q) (vs:Array Value),partsOf place ps=some eB->dq w aX B cs vs.toList->kF (a3 tm) cs eB=some r ->
   ∃oJ:Array Value,Instr.fill place vs (ps.map λp=>(p.1,ρ p.2))=some oJ/\dq w aX B r oJ.toList
 | [],eB,cs,r,vs,aF,bZ,h=>by
  simp[partsOf] at aF;subst aF;simp[kF] at h;subst h;exact⟨vs,rfl,bZ⟩
 |(i,x)::ps,eB,cs,r,vs,aF,bZ,h=>by
  simp only[partsOf,lz,hi,hy,er,cm] at aF;obtain⟨q,aO,ao1,Bc,rfl⟩:=aF;obtain⟨⟨o,s⟩,nW,y,ar,rfl⟩:=aO;simp only[kF] at h
  split at h
  ·rename_i G;obtain⟨ao,E,H⟩:=G;have ve:=hρ x y ar;have ao2:a3 tm y ≠ .undef:=λe=>by rw[e] at ao;simp[Q.known] at ao
   ·have lY:=dq.Ti ve ao2;have e4:(ρ x).cells.size=s:=by have:=lY.1;simp at this;omega
    have JN:o+s<=vs.size:=by have:=bZ.1;simp at this;omega
    have gL:=ade o (ρ x).cells.toList 0 vs (by simp[e4];exact JN);simp only[nX,Array.length_toList] at gL;have To:=bZ.kY lY o;obtain⟨oJ,aK,FP⟩:=NY hρ ps ao1 _ r ((vs.toList.take o++(ρ x).cells.toList++vs.toList.drop (o+(ρ x).cells.size)).toArray) Bc (by simpa using To) h;refine⟨oJ,?_,FP⟩;simp only[List.map_cons,Instr.fill,nW];rw[ag (by simp[e4];omega)]
    have aW:(ρ x).cells.zipIdx.foldl (λcs (p:Value×Nat)=>cs.setIfInBounds (o+p.2) p.1) vs=(vs.toList.take o++(ρ x).cells.toList++vs.toList.drop (o+(ρ x).cells.size)).toArray:=by
     rw[<-Array.foldl_toList,Array.toList_zipIdx];exact gL
    rw[<-aK]
    congr 1
  ·cases h
end
section
variable {P:Program} {A:Nat->Prop} {w:World} {B:e5} {mem:Mem}
theorem Dk {aX:Nat->Prop}{t:TypeId}{z:List Q}(h:zeroOf P t=some z):∃i iW,P.info? t=some i/\i.zero=some iW/\dq w aX B z iW.cells.toList:=by
 simp only[zeroOf,er] at h;obtain⟨iW,⟨i,J,aW⟩,hm⟩:=h;obtain⟨E,H⟩:=oG hm;exact⟨i,iW,J,aW,by simp[E],λj m v ao3 JO=>Tg (H j v m JO ao3)⟩
theorem JP {t:TypeId}{i:TypeInfo}{iW:Value}(J:P.info? t=some i)(aW:i.zero=some iW):(zeroValue t).run P w=.ok iW w:=by
 simp[zeroValue,typeInfo,J,aW]
theorem adf {t:TypeId}{i:TypeInfo}{n:Nat}(J:P.info? t=some i)(U:gn P t=some n):i.size=n:=by
 simpa [gn,J] using U
theorem adg {t:TypeId}{i:TypeInfo}{n:Nat}(J:P.info? t=some i)(U:FA P t=some n):i.bytes=n:=by
 simpa [FA,J] using U
theorem NZ {z:Array Value}(ao:0<z.size):∀n,((Array.range (n*z.size)).map (z[·%z.size]!)).toList=(dD n z.toList).flatten
 |0=>by simp
 |n+1=>by
  have aA:=NZ ao n;apply pM;intro i
  have ay:∀m i,((Array.range (m*z.size)).map (z[·%z.size]!)).toList[i]?=if i<m*z.size then some (z[i%z.size]!) else none:=by
   intro m i;rw[Array.getElem?_toList,Array.getElem?_map]
   by_cases J:i<m*z.size
   ·rw[ab J,Array.getElem?_range];simp[J]
   ·rw[ag J,Array.getElem?_range];simp[J]
  rw[ay,List.replicate_succ',List.flatten_append,FI,<-aA];have el:((Array.range (n*z.size)).map (z[·%z.size]!)).toList.length=n*z.size:=by simp
  rw[el];have hmul:(n+1)*z.size=n*z.size+z.size:=by rw[qh,xM]
  by_cases J:i<n*z.size
  ·rw[ab J,ab (by omega),ay,ab J]
  ·rw[ag J]
   by_cases nV:i<(n+1)*z.size
   ·rw[ab nV];have az:i-n*z.size<z.size:=by omega
    have Tp:i%z.size=i-n*z.size:=by
     have e:i=(i-n*z.size)+z.size*n:=by have:=Nat.mul_comm n z.size;omega
     have aB:((i-n*z.size)+z.size*n)%z.size=i-n*z.size:=by rw[Nat.add_mul_mod_self_left,Nat.mod_eq_of_lt az]
     rwa [<-e] at aB
    rw[Tp];simp[az]
   ·rw[ag nV]
    symm
    rw[mx];simp;omega
theorem dq.replicate {aX:Nat->Prop}{z:List Q}{adh:List Value}(h:dq w aX B z adh):∀n,dq w aX B (dD n z).flatten (dD n adh).flatten
 |0=>by simpa using dq.nil
 |n+1=>by
  rw[qs,jP,qs,jP];exact h.append (dq.replicate h n)
theorem dq.q7 {cs:List Q}{vs:List Value}{aQ:World}{bs:e5}(t:Trans A w B aQ bs)(h:dq w (cb A B) B cs vs):dq aQ (cb A bs) bs cs vs :=
 ⟨h.1,λi m v E H=>(h.2 i m v E H).q7 t⟩
theorem JQ {cs:List Q}(b0:fr A w B mem)(w1:World)(f:Fr (λ_=>False) w w1)(aW:w1.heap.size=w.heap.size)(k:Key)(vs:Array Value)(T:TypeId)(av:(D cs)<=vs.size)
  (bZ:dq w (cb A B) B cs (vs.toList.take (D cs))):eH A w B (w1.alloc (.cells vs T)) (gB B k ⟨bY mem k,some w.heap.size,vs.size⟩) (a1 mem k (bY mem k) cs) :=
 eH.alloc b0 w1 f aW k vs T av λi m hm=>by
  obtain⟨v,ak,aa⟩:=bZ.get hm;rw[u9] at ak
  split at ak
  ·exact⟨v,by simpa using ak,aa⟩
  ·cases ak
theorem ao4 {t:TypeId}{z:List Q}(k:Key)(b0:fr A w B mem)(aW:zeroOf P t=some z):
  ∃v aQ bs,(Instr.alloc t true (.tuple #[])).run P w=.ok v aQ/\eH A w B aQ bs (a1 mem k (bY mem k) z)/\bq aQ (cb A bs) bs (.ptr k (bY mem k) 0) v:=by
 obtain⟨i,iW,J,tr,bZ⟩:=Dk (P:=P) (w:=w) (B:=B) (aX:=cb A B) aW;have av:(D z)=iW.cells.size:=by have:=bZ.1;simp at this;omega
 refine⟨.pointer (some ⟨w.heap.size,0,none⟩),w.alloc (.cells iW.cells t),_,?_,JQ b0 w (Fr.refl _ _) rfl k iW.cells t (by omega) (by rw[dx (by simp;omega)];exact bZ),?_⟩
 ·simp[Instr.alloc,JP J tr,newVar,newRow]
 ·exact .ptr (hx _ _ _) (bX _) ⟨_,rfl,λ_=>rfl⟩
theorem ao5 {t:TypeId}{m:Q}{u:Value}(k:Key)(b0:fr A w B mem)(hu:bq w (cb A B) B m u)(M:m.known=true):
  ∃v aQ bs,(Instr.box t u).run P w=.ok v aQ/\eH A w B aQ bs (a1 mem k (bY mem k) m.cells)/\bq aQ (cb A bs) bs (.ptr k (bY mem k) 0) v:=by
 have bZ:=dq.Ti hu (λe=>by rw[e] at M;simp[Q.known] at M);have av:(D m.cells)=u.cells.size:=by have:=bZ.1;simp at this;omega
 refine⟨.pointer (some ⟨w.heap.size,0,none⟩),w.alloc (.cells u.cells t),_,?_,JQ b0 w (Fr.refl _ _) rfl k u.cells t (by omega) (by rw[dx (by simp;omega)];exact bZ),?_⟩
 ·simp[Instr.box,newVar,newRow]
 ·exact .ptr (hx _ _ _) (bX _) ⟨_,rfl,λ_=>rfl⟩
theorem ao6 {t e:TypeId}{z:List Q}{bytes n c:Nat}{dJ cU:Q}{qt kJ:Value}{r:Q}{jW:Option (Key×Nat×List Q)}(k:Key)(b0:fr A w B mem)(bA:P.underlying t=some (.slice e))(aW:zeroOf P e=some z)(U:gn P e=some (D z))
  (ae:FA P e=some bytes) (E:idx dJ=some n) (H:idx cU=some c) (e8:bq w (cb A B) B dJ qt) (et:bq w (cb A B) B cU kJ) (ao:0<D z) (h:Fv k (bY mem k) z bytes n c=some (r,jW)) :
  ∃v aQ bs,(Instr.makeSlice t qt kJ).run P w=.ok v aQ/\eH A w B aQ bs (iq mem jW)/\bq aQ (cb A bs) bs r v:=by
 unfold Fv at h
 split at h
 ·rename_i G;obtain⟨rfl,FQ,wz⟩:=G
  cases h;obtain⟨b6,rfl⟩:=FK E e8;obtain⟨dd,rfl⟩:=FK H et;obtain⟨i,iW,J,tr,bZ⟩:=Dk (P:=P) (w:=w) (B:=B) (aX:=cb A B) aW;have av:(D z)=iW.cells.size:=by have:=bZ.1;simp at this;omega
  have e4:=adf J U;have JR:=adg J ae
  have m2:=run_make (P:=P) w t e i iW bA J tr b6 dd (n:Int) (n:Int) (by omega) (by omega) (by
   have:((i.bytes*n:Nat):Int)<=281474976710656:=by rw[JR];omega
   rwa [Int.natCast_mul] at this) (by unfold maxLen at wz;omega)
  simp only[Int.toNat_natCast] at m2
  have adi:(madeCells iW.cells (n*i.size)).toList=(dD n iW.cells.toList).flatten:=by
   rw[e4,av];exact NZ (by omega) n
  have Dl:(madeCells iW.cells (n*i.size)).size=n*D z:=by rw[size_madeCells,e4]
  have Bd:=bZ.replicate (n:=n)
  have hlen:(dD n z).flatten.length=n*D z:=by
   have:=Bd.1;rw[<-this,<-adi,Array.length_toList,Dl]
  refine⟨_,_,_,m2,JQ b0 w (Fr.refl _ _) rfl k _ e (by rw[Dl,hlen];exact bX _) ?_,?_⟩
  ·rw[dx (by rw[Array.length_toList,Dl,hlen];exact bX _),adi];exact Bd
  ·refine .ref (hx _ _ _) (bX _) ⟨_,n,rfl,bX _,wz,.inr ⟨_,rfl,λ_=>⟨rfl,?_⟩⟩⟩;simp only[kH];rw[Dl];exact bX _
 ·cases h
theorem Tq (b0:fr A w B mem){k:Key}{g:Nat}{cs new:List Q}{e:mr}{b:Nat}{vs:Array Value}{T:TypeId}{vals:List Value}{off:Nat}(M:mem k=some (g,cs))(he:B k=some e)(ae:e.dz=some b)
  (aT:w.heap[b]?=some (.cells vs T (0,0))) (e4:vs.size=e.size) (av:(D cs)<=vs.size) (bZ:dq w (cb A B) B cs (vs.toList.take (D cs))) (b2:e.g=g) (Tr:off+D new<=D cs) (lC:dq w (cb A B) B new vals) :
  eH A w B (w.setRow b (vs.toList.take off++vals++vs.toList.drop (off+D vals)).toArray) B (a1 mem k g (kY cs off new)):=by
 have Ts:(D vals)=D new:=lC.1
 have To:dq w (cb A B) B (kY cs off new) ((vs.toList.take off++vals++vs.toList.drop (off+D vals)).take (D cs)):=by
  have E:=bZ.kY lC off
  have ay:(vs.toList.take (D cs)).take off++vals++(vs.toList.take (D cs)).drop (off+D vals)=(vs.toList.take off++vals++vs.toList.drop (off+D vals)).take (D cs):=by
   have mA:(D vs.toList)=vs.size:=Array.length_toList;rw[List.take_take,oK (by omega),adb,Dj,fQ,gC,mA,oK (a:=off) (b:=vs.size) (by omega)];rw[dx (l:=vs.toList.take off++vals) (by rw[fQ,gC,mA];omega)]
  rwa [ay] at E
 have FR:(kY cs off new).length=D cs:=by unfold kY;simp;omega
 have heq:gB B k e=B:=by
  funext j
  unfold gB
  split
  ·rename_i ah;rw[ah,he]
  ·rfl
 have f:Fr (λb=>∃e,B k=some e/\e.dz=some b) w (w.setRow b (vs.toList.take off++vals++vs.toList.drop (off+D vals)).toArray):=by
  refine⟨rfl,rfl,rfl,by simp,λj ah bL=>?_⟩
  exact setRow_other w b j _ (λN0=>bL ⟨e,he,by rw[ae,N0]⟩)
 have:=eH.change (k:=k) (e':=e) (cs:=kY cs off new) b0 f (λaB fq => .inl (by rw[he] at fq;exact pN fq)) (λee eR => .inr ⟨e,he,eR⟩) (λaH=>by rw[ae] at aH;cases aH) (λee eR=>by
  rw[ae] at eR
  cases eR;refine⟨_,T,setRow_heap w b vs _ T (0,0) aT,by simp;omega,by rw[FR];simp;omega,λi m hm=>?_⟩
  obtain⟨v,ak,aa⟩:=To.get hm;rw[u9] at ak
  split at ak
  ·exact⟨v,by simpa using ak,aa⟩
  ·cases ak)
 rw[heq,b2] at this;exact this
theorem ao7 {t:TypeId}{n:Nat}{dJ cU:Q}{qt kJ:Value}{r:Q}{jW:Option (Key×Nat×List Q)}(b0:fr A w B mem)(U:gn P t=some n)(e8:bq w (cb A B) B dJ qt)(et:bq w (cb A B) B cU kJ)
  (h:xO mem n dJ cU.cells=some (r,jW)):∃aQ,(Instr.storeAt t qt kJ).run P w=.ok () aQ/\eH A w B aQ B (iq mem jW)/\r=.no:=by
 cases dJ with
 |ptr k g off =>
  simp only[xO] at h;unfold JB at h
  split at h
  ·rename_i c0 cs M
   split at h
   ·rename_i G;obtain⟨rfl,E,H,af⟩:=G
    cases h;obtain⟨e,he,b2,aH,ae⟩:=b0.at_ M
    cases e8 with
    |ptr gz JL aF =>
     rw[he] at gz
     cases gz;obtain⟨b,rfl,jU⟩:=aF;have jU:=jU b2.symm;obtain⟨vs,T,aT,e4,av,bZ⟩:=ae b jU;have fF:cU ≠ .undef:=λe=>by rw[e] at af;simp[Q.cells,Q.one] at af
     have lY:=dq.Ti et fF
     have ao8:∀v∈kJ.cells.toList,v.oneCell'=true:=by
      intro v ak;obtain⟨i,J,jX⟩:=adj ak;have ks:i<D cU.cells:=by rw[<-lY.1];exact J
      have:=lY.2 i _ _ (bu ks) (bu J);rw[jX] at this;exact ac1 this (nq.1 af _ (np ks))
     have aHd:kJ.cells.size=n:=by have:=lY.1;simp at this;omega
     have dy:=run_storeCells_at P b off T kJ.cells.toList 0 vs w aT (by simp;omega) ao8;simp only[nX] at dy;refine⟨_,?_,Tq b0 M he jU aT e4 av bZ b2 (by omega) lY,rfl⟩;have bI:¬ (kJ.cells.size≠n):=by omega
     simp only[Instr.storeAt,Instr.sureAddr,storeVar,Sem.run_bind,Sem.run_pure,Result.andThen_ok,va U];rw[ag bI];exact dy
   ·cases h
  ·cases h
 |_=>simp[xO] at h
end
section
variable {P:Program} {A:Nat->Prop} {w:World} {B:e5} {mem:Mem}
theorem N1 (sz:Nat):∀(n:Nat) (l:List Data),(chunk sz n l).length=n
 |0,_=>rfl
 |n+1,l=>by simp[chunk,N1 sz n]
theorem N2 (sz:Nat):∀(n:Nat) (l:List Data),D l=n*sz->∀e∈chunk sz n l,D e=sz
 |0,_,_,e,he=>by simp[chunk] at he
 |n+1,l,av,e,he=>by
  have hmul:(n+1)*sz=n*sz+sz:=by rw[qh,xM]
  simp only[chunk,List.mem_cons] at he;rcases he with rfl|he
  ·simp;omega
  ·exact N2 sz n _ (by simp;omega) e he
theorem N3 (sz:Nat):∀(n:Nat) (l:List Data),D l=n*sz->(chunk sz n l).flatten=l
 |0,l,av=>by simp at av;simp[chunk,av]
 |n+1,l,av=>by
  have hmul:(n+1)*sz=n*sz+sz:=by rw[qh,xM]
  simp only[chunk,jP];rw[N3 sz n _ (by simp;omega),List.take_append_drop]
theorem adk {aX:Nat->Prop}{m:Q}{d:Data}{v:Value}(h:u3 m=some d)(ak:bq w aX B m v):Den w aX d v:=by
 unfold u3 at h
 split at h<;>cases h
 ·cases ak with
  |I h=>exact h
 ·cases ak with
  |nil=>exact .lV
theorem ao9 {ds:List Data}{vs:Array Value}{T:TypeId}{n sz:Nat}(b0:fr A w B mem)(aQ:World)(hw:aQ=w.alloc (.cells vs T))(av:(D ds)=n*sz)(ak:vs.size=n*sz)(hm:n<=maxLen)
  (Y:∀(i:Nat) (d:Data) (v:Value),ds[i]?=some d->vs[i]?=some v->Den w (cb A B) d v):Den aQ (cb A B) (.X (chunk sz n ds)) (.slice (some ⟨w.heap.size,0,none⟩) n n):=by
 have ok:eH A w B aQ B mem:=by rw[hw];exact .still b0 ((Fr.refl _ _).alloc _)
 have dM:=N1 sz n ds
 have h:=Den.X (w:=aQ) (aX:=cb A B) (es:=chunk sz n ds) (b:=w.heap.size) (off:=0) (c:=n) (sz:=sz) (λi=>vs.getD i undef) (by rw[dM];exact bX _) (by rw[dM];exact hm)
  (by rw[hw];simp) (λbL=>by
   rcases bL with bL|bL
   ·have:=b0.xN bL;omega
   ·have:=b0.lt _ bL;omega) (N2 sz n ds av)
  (λi J=>by
   rw[dM] at J;rw[hw,kH];have:i<vs.size:=by omega
   simp[this])
  (λi d k2=>by
   rw[N3 sz n ds av] at k2;have az:i<D ds:=(dP.1 k2).1;have k7:i<vs.size:=by omega
   have:vs.getD i undef=vs[i]:=by simp[k7]
   simp only[this];exact (Y i d _ k2 (Array.getElem?_eq_getElem k7)).trans ok.mZ)
 rw[dM] at h;exact h
theorem adl {t e:TypeId}{z r:List Q}{sz len:Nat}{ps:List (Nat×Operand)}{eB:List (Nat×Nat×bS)}{ρ:Operand->Value}{tm:Nat->Q}{aX:Nat->Prop}(bA:P.underlying t=some (.slice e))(aW:zeroOf P e=some z)
  (U:gn P e=some sz) (wA:(D z)=sz) (ao:0<sz) (av:len*sz<=16777216) (aF:partsOf (λi=>some (i*sz,sz)) ps=some eB) (hρ:∀x y,dH x=some y->bq w aX B (a3 tm y) (ρ x))
  (h:kF (a3 tm) (dD len z).flatten eB=some r) :
  ∃vs:Array Value,(Instr.buildSlice t len (ps.map λp=>(p.1,ρ p.2)).toArray).run P w=.ok (.slice (some ⟨w.heap.size,0,none⟩) len len) (w.alloc (.cells vs e))/\dq w aX B r vs.toList:=by
 obtain⟨i,iW,J,tr,bZ⟩:=Dk (P:=P) (w:=w) (B:=B) (aX:=aX) aW;have FT:iW.cells.size=sz:=by have:=bZ.1;simp at this;omega
 have adm:=NZ (z:=iW.cells) (by omega) len;rw[FT] at adm;have Bd:=bZ.replicate (n:=len);rw[<-adm] at Bd;obtain⟨oJ,aK,aa⟩:=NY (place:=λi=>some (i*sz,sz)) hρ ps eB _ r _ aF Bd h;refine⟨oJ,?_,aa⟩;have aH:¬ (len*sz>2^24):=by omega
 by_cases rk:len*sz=0
 ·have bm:((Array.range (len*sz)).map (iW.cells[·%sz]!))=#[]:=by rw[rk];simp[Array.range_zero']
  have apa:Instr.fill (λi=>some (i*sz,sz)) #[] (ps.map λp=>(p.1,ρ p.2))=some oJ:=by rw[<-bm];exact aK
  simp only[Instr.buildSlice,Sem.run_bind,run_underlying bA,Result.andThen_ok,va U];rw[ag aH];simp only[rk,if_true,Sem.run_bind,Sem.run_pure,Result.andThen_ok];simp[apa,newRow,Array.range_zero']
 ·simp only[Instr.buildSlice,Sem.run_bind,run_underlying bA,Result.andThen_ok,va U];rw[ag aH];simp only[rk,if_false,Sem.run_bind,Sem.run_pure,Result.andThen_ok,JP J tr,FT];simp[aK,newRow]
theorem apb {t e:TypeId}{z:List Q}{sz len:Nat}{ps:List (Nat×Operand)}{eB:List (Nat×Nat×bS)}{ρ:Operand->Value}{tm:Nat->Q}{r:Q}(b0:fr A w B mem)(bA:P.underlying t=some (.slice e))(aW:zeroOf P e=some z)
  (U:gn P e=some sz) (wA:(D z)=sz) (ao:0<sz) (av:len*sz<=16777216) (aF:partsOf (λi=>some (i*sz,sz)) ps=some eB) (hρ:∀x y,dH x=some y->bq w (cb A B) B (a3 tm y) (ρ x))
  (h:Jm (dD len z).flatten sz len (kF (a3 tm) (dD len z).flatten eB)=some r) :
  ∃v aQ,(Instr.buildSlice t len (ps.map λp=>(p.1,ρ p.2)).toArray).run P w=.ok v aQ/\eH A w B aQ B mem/\bq aQ (cb A B) B r v:=by
 unfold Jm at h
 split at h
 ·rename_i hlen
  cases aK:kF (a3 tm) (dD len z).flatten eB with
  |none=>rw[aK] at h;cases h
  |some cs =>
   rw[aK] at h;simp only[dY] at h;obtain⟨ds,ha,rfl⟩:=h;obtain⟨vs,m2,bZ⟩:=adl (P:=P) (B:=B) bA aW U wA ao av aF hρ aK;obtain⟨E,H⟩:=oG ha
   have dM:(D cs)=len*sz:=by
    have:∀(eB:List (Nat×Nat×bS)) (a r:List Q),kF (a3 tm) a eB=some r->(D r)=D a:=by
     intro eB
     induction eB with
     |nil=>intro a r h;simp[kF] at h;rw[h]
     |cons q eB aA =>
      intro a r h;obtain⟨o,s,x⟩:=q;simp only[kF] at h
      split at h
      ·rename_i G;rw[aA _ _ h];unfold kY;simp;omega
      ·cases h
    rw[this _ _ _ aK,hlen]
   have aR:vs.size=len*sz:=by have:=bZ.1;simp at this;omega
   refine⟨_,_,m2,.still b0 ((Fr.refl _ _).alloc _),.I (ao9 b0 _ rfl (by omega) aR ?_ λi d v Y ak=>?_)⟩
   ·have:len<=len*sz:=JS _ ao;unfold maxLen;omega
   ·have az:i<D cs:=by have:=(dP.1 Y).1;omega
    have jY:=bu az;exact adk (H i _ d jY Y) (bZ.2 i _ v jY (by simpa using ak))
 ·cases h
theorem apc {t e:TypeId}{z:List Q}{sz len:Nat}{ps:List (Nat×Operand)}{eB:List (Nat×Nat×bS)}{ρ:Operand->Value}{tm:Nat->Q}{r:Q}{jW:Option (Key×Nat×List Q)}(k:Key)(b0:fr A w B mem)(bA:P.underlying t=some (.slice e))(aW:zeroOf P e=some z)
  (U:gn P e=some sz) (wA:(D z)=sz) (ao:0<sz) (av:len*sz<=16777216) (aF:partsOf (λi=>some (i*sz,sz)) ps=some eB) (hρ:∀x y,dH x=some y->bq w (cb A B) B (a3 tm y) (ρ x))
  (h:Fu k (bY mem k) (dD len z).flatten sz len (kF (a3 tm) (dD len z).flatten eB)=some (r,jW)) :
  ∃v aQ bs,(Instr.buildSlice t len (ps.map λp=>(p.1,ρ p.2)).toArray).run P w=.ok v aQ/\eH A w B aQ bs (iq mem jW)/\bq aQ (cb A bs) bs r v:=by
 unfold Fu at h
 split at h
 ·rename_i hlen
  cases aK:kF (a3 tm) (dD len z).flatten eB with
  |none=>rw[aK] at h;cases h
  |some cs =>
   rw[aK] at h
   cases h;obtain⟨vs,m2,bZ⟩:=adl (P:=P) (B:=B) bA aW U wA ao av aF hρ aK
   have dM:(D cs)=len*sz:=by
    have:∀(eB:List (Nat×Nat×bS)) (a r:List Q),kF (a3 tm) a eB=some r->(D r)=D a:=by
     intro eB
     induction eB with
     |nil=>intro a r h;simp[kF] at h;rw[h]
     |cons q eB aA =>
      intro a r h;obtain⟨o,s,x⟩:=q;simp only[kF] at h
      split at h
      ·rename_i G;rw[aA _ _ h];unfold kY;simp;omega
      ·cases h
    rw[this _ _ _ aK,hlen]
   have aR:vs.size=D cs:=by have:=bZ.1;simp at this;omega
   refine⟨_,_,_,m2,JQ b0 w (Fr.refl _ _) rfl k vs e (by omega) (by rw[dx (by simp;omega)];exact bZ),?_⟩
   have ia:len<=maxLen:=by
    have:len<=len*sz:=JS _ ao;unfold maxLen;omega
   exact .ref (hx _ _ _) (bX _) ⟨_,len,rfl,bX _,ia,.inr ⟨_,rfl,λ_=>⟨rfl,by simp only[kH];omega⟩⟩⟩
 ·cases h
theorem adn {m:Q}{sz n:Nat}{new:List Q}{v:Value}(b0:fr A w B mem)(ak:bq w (cb A B) B m v)(h:qk mem sz m=some (n,new)):
  ∃a c vals,v=.slice a n c/\dq w (cb A B) B new vals/\D vals=n*sz/\(0<n->∃b off,a=some ⟨b,off,none⟩/\eI w b off vals):=by
 unfold qk at h
 split at h
 ·split at h
  ·rename_i es ts
   cases h;have ts:=Tm ts
   cases ak with
   |I Y =>
    cases Y with
    |lV=>exact⟨_,_,[],rfl,by simpa using dq.nil,by simp,λh=>by simp at h⟩
    | @X es b off c ev val av hm ae fJ e4 G Ba =>
     have lD:=NG ts;rcases k6 (D es) with ao|ao
     ·have:es=[]:=tt ao;subst this;exact⟨_,_,[],rfl,by simpa using dq.nil,by simp,λh=>by simp at h⟩
     ·have JM:ev=sz:=by
       have k8:=np (l:=es) (n:=0) ao;rw[<-e4 _ k8,ts _ k8]
      subst JM;refine⟨_,_,(dU (D es*ev)).map val,rfl,?_,by simp,λ_=>⟨b,off,rfl,λj u ah=>?_⟩⟩
      ·refine dq.I (by simp[lD]) λi d u E H=>?_;have J:i<D es*ev:=by have:=(dP.1 E).1;omega
       rw[bh,tn J] at H;simp only[mB,cm] at H;subst H;exact Ba i d E
      ·have J:j<D es*ev:=by have:=(dP.1 ah).1;simpa using this
       rw[bh,tn J] at ah;simp only[mB,cm] at ah;subst ah;exact G j J
  ·cases h
 ·cases h
  cases ak with
  |nil=>exact⟨_,_,[],rfl,dq.nil,by simp,λh=>by simp at h⟩
 ·rename_i k g ev off len
  split at h
  ·rename_i e4;subst e4
   split at h
   ·rename_i c0 cs M
    split at h
    ·rename_i a9;subst a9;simp only[dY,fo] at h;obtain⟨part,xY,rfl,rfl⟩:=h;obtain⟨av,rfl,aH⟩:=FJ xY
     cases ak with
     |ref he a9 aa =>
      obtain⟨e,gz,b2,Dh,ae⟩:=b0.at_ M;rw[he] at gz
      cases gz;obtain⟨a,cap,rfl,E,H,af⟩:=aa;rcases af with af|⟨b,rfl,aP⟩
      ·have:len=0:=by omega
       subst this;exact⟨_,_,[],rfl,by simpa using dq.nil,by simp,λh=>by omega⟩
      ·obtain⟨bt,bU⟩:=aP b2.symm;obtain⟨vs,T,aT,aW,hle,bZ⟩:=ae b bt;refine⟨_,_,((vs.toList.take (D cs)).drop off).take (len*ev),rfl,(bZ.drop off).take _,by have:=((bZ.drop off).take (len*ev)).1;omega,λ_=>⟨b,off,rfl,?_⟩⟩
       have:=(((eI.row aT).take (D cs)).add off).take (len*ev)
       simpa using this
    ·cases h
   ·cases h
  ·cases h
 ·cases h
theorem N4 {sz n c:Nat}{a:Option Addr}{vals:List Value}(av:(D vals)=n*sz)(cg:0<n->∃b off,a=some ⟨b,off,none⟩/\eI w b off vals)(aQ:World)(hw:aQ.heap=w.heap):
  (Builtin.firstCells sz n (.slice a n c)).run P aQ = .ok vals.toArray aQ:=by
 have G:∀p,aQ.cell? p=w.cell? p:=λp=>by simp[World.cell?,hw]
 rcases k6 n with ao|ao
 ·subst ao;have:vals=[]:=tt (by simpa using av);subst this
  cases a with
  |none=>simp[Builtin.firstCells]
  |some a=>simp[Builtin.firstCells,loadCells,loadCellsFrom]
 ·obtain⟨b,off,rfl,zp⟩:=cg ao;exact run_firstCells_some aQ sz n _ n c vals av λj v ah=>by rw[zm,G];exact zp j v ah
theorem dq.Tt {aX:Nat->Prop}{cs:List Q}{vs:List Value}(h:dq w aX B cs vs)(E:cs.all Q.one=true):∀v∈vs,v.oneCell'=true:=by
 intro v ak;obtain⟨i,J,jX⟩:=adj ak;have ks:i<D cs:=by rw[<-h.1];exact J
 have:=h.2 i _ _ (bu ks) (bu J);rw[jX] at this;exact ac1 this (nq.1 E _ (np ks))
theorem Tu {t ty e:TypeId}{sz pe wB n c:Nat}{base a:Option Addr}{vals:List Value}(bA:P.underlying t=some (.slice e))(U:gn P e=some sz)(xZ:pe+n<=wB)
  (aK:(Builtin.firstCells sz n (.slice a n c)).run P w=.ok vals.toArray w) (aQ:World)
  (dy:∀b,base=some b->(storeCells (b.add (pe*sz)) vals).run P w=.ok () aQ) (aH:base=none->aQ=w) :
  (Builtin.append_ #[t,t] ty #[.slice base pe wB,.slice a n c]).run P w=.ok (.slice base (pe+n) wB) aQ:=by
 simp only[gn,dY] at U;obtain⟨i,J,rfl⟩:=U
 cases base with
 |none=>simp[Builtin.append_,run_underlying bA,sizeOf,typeInfo,J,Builtin.lenOf,xZ,aK,aH rfl]
 |some b=>simp[Builtin.append_,run_underlying bA,sizeOf,typeInfo,J,Builtin.lenOf,xZ,aK,dy b rfl]
theorem apd {t ty e:TypeId}{sz pe wB n c bytes:Nat}{base a:Option Addr}{pO vals:List Value}{i:TypeInfo}{z:Value}(bA:P.underlying t=some (.slice e))(J:P.info? e=some i)(aW:i.zero=some z)(e4:i.size=sz)(JR:i.bytes=bytes)
  (xZ:wB<pe+n) (vb:∀aQ,aQ.heap=w.heap->(Builtin.firstCells sz pe (.slice base pe wB)).run P aQ = .ok pO.toArray aQ) (aK:∀aQ,aQ.heap=w.heap->(Builtin.firstCells sz n (.slice a n c)).run P aQ = .ok vals.toArray aQ)
  (ape:pe+n<=maxLen) (ae:(pe+n)*bytes<=140737488355328) :
  (Builtin.append_ #[t,t] ty #[.slice base pe wB,.slice a n c]).run P w =
   .ok (.slice (some ⟨w.heap.size,0,none⟩) (pe+n) (grownCap w (pe+n) wB e))
    (w.drew.alloc (.cells (pO.toArray++vals.toArray++Builtin.zeroCells z.cells (grownCap w (pe+n) wB e-(pe+n))) e)):=by
 subst e4;subst JR
 have aH:¬ (pe+n<=wB):=by omega
 have apf:¬ (9223372036854775807<((pe:Int)+(n:Int))):=by unfold maxLen at ape;omega
 have JN:=growslice_fits xZ ae;have apg:¬ (281474976710656<Builtin.nextslicecap (pe+n) wB*i.bytes):=by omega
 have E:=vb w.drew rfl;have H:=aK w.drew rfl;simp[Builtin.append_,run_underlying bA,sizeOf,typeInfo,zeroValue,J,aW,Builtin.lenOf,aH,apf,apg,Question.forced,E,H,newRow,grownCap,<-List.append_toArray,Array.append_assoc]
theorem aph {t ty e:TypeId}{z:List Q}{bytes n:Nat}{dJ cU:Q}{qt kJ:Value}{new:List Q}{r:Q}{jW:Option (Key×Nat×List Q)}(k:Key)(b0:fr A w B mem)(bA:P.underlying t=some (.slice e))(aW:zeroOf P e=some z)(U:gn P e=some (D z))
  (JR:FA P e=some bytes) (ao:0<D z) (e8:bq w (cb A B) B dJ qt) (et:bq w (cb A B) B cU kJ) (eS:qk mem (D z) cU=some (n,new)) (h:ra mem k z bytes dJ (some (n,new))=some (r,jW)) :
  ∃v aQ bs,(Builtin.append_ #[t,t] ty #[qt,kJ]).run P w=.ok v aQ/\eH A w B aQ bs (iq mem jW)/\bq aQ (cb A bs) bs r v:=by
 obtain⟨de,c2,vals,rfl,bZ,mA,cg⟩:=adn b0 et eS;obtain⟨i,iW,J,tr,api⟩:=Dk (P:=P) (w:=w) (B:=B) (aX:=cb A B) aW;have e4:=adf J U;have jU:=adg J JR;have FT:iW.cells.size=D z:=by have:=api.1;simp at this;omega
 have pP:(D new)=n*D z:=by rw[<-bZ.1,mA]
 have aK:=λaQ hw=>N4 (P:=P) (w:=w) (c:=c2) mA cg aQ hw
 -- a new block
 have grow:∀(base:Option Addr) (len cap:Nat) (g:Nat) (k':Key) (cs:List Q) (pO:List Value),cap<len+n->(∀aQ,aQ.heap=w.heap->(Builtin.firstCells (D z) len (.slice base len cap)).run P aQ = .ok pO.toArray aQ) ->
   dq w (cb A B) B cs pO->(D cs)=len*(D z)->len+n<=maxLen->(len+n)*bytes<=140737488355328->g=bY mem k' ->
   ∃v aQ bs,(Builtin.append_ #[t,t] ty #[.slice base len cap,.slice de n c2]).run P w=.ok v aQ/\eH A w B aQ bs (a1 mem k' g (cs++new))/\bq aQ (cb A bs) bs (.ref k' g (D z) 0 (len+n)) v:=by
  intro base len cap g k' cs pO xZ vb k1 dM wz FQ a9;subst a9;have m2:=apd (P:=P) (ty:=ty) bA J tr e4 jU xZ vb aK wz FQ;have b2:=grownCap_ge w (len+n) cap e;have hle:=grownCap_le_maxLen w (len+n) cap e wz
  have Dl:(pO.toArray++vals.toArray++Builtin.zeroCells iW.cells (grownCap w (len+n) cap e-(len+n))).size=grownCap w (len+n) cap e*D z:=by
   have FU:=k1.1;simp only[Array.size_append,List.size_toArray,size_zeroCells,FT,FU,dM,mA];rw[<-qh,<-qh]
   congr 1
   omega
  have fh:=k1.append bZ;have hmul:(len+n)*D z<=grownCap w (len+n) cap e*D z:=vd _ b2;have JT:(cs++new).length=(len+n)*D z:=by rw[fQ,dM,pP,qh]
  refine⟨_,_,_,m2,JQ (cs:=cs++new) b0 w.drew ((Fr.refl _ _).drew _) rfl k' _ e (by rw[Dl,JT];exact hmul) ?_,?_⟩
  ·have:(pO.toArray++vals.toArray++Builtin.zeroCells iW.cells (grownCap w (len+n) cap e-(len+n))).toList.take (cs++new).length=pO++vals:=by
    simp only[Array.toList_append,List.toList_toArray];rw[List.take_append_of_le_length (by rw[fh.1];exact bX _),dx (by rw[fh.1];exact bX _)]
   rw[this];exact fh
  ·refine .ref (hx _ _ _) (bX _) ⟨_,_,rfl,b2,hle,.inr ⟨_,rfl,λ_=>⟨rfl,?_⟩⟩⟩;simp only[kH];rw[Dl];exact bX _
 cases dJ with
 |nil =>
  simp only[ra] at h
  split at h
  ·rename_i G;obtain⟨FQ,wz,x0⟩:=G
   cases h
   cases e8 with
   | @nil cQ =>
    rcases k6 n with jF|jF
    ·subst jF;have FV:vals=[]:=tt (by simpa using mA);have Tv:new=[]:=tt (by simpa using pP);subst FV;subst Tv
     refine⟨_,_,_,Tu (P:=P) (ty:=ty) bA U (bX _) (aK w rfl) w (λb _=>by simp[storeCells]) (λ_=>rfl),eH.xV b0 k,?_⟩;exact .ref (hx _ _ _) (bX _) ⟨_,0,rfl,bX _,fs _,.inl rfl⟩
    ·have:=grow cQ 0 0 (bY mem k) k [] [] (by omega) (λaQ hw=>by
      have:=N4 (P:=P) (w:=w) (sz:=D z) (n:=0) (c:=0) (a:=cQ) (vals:=[]) (by simp) (λh=>by omega) aQ hw;exact this) dq.nil (by simp) (by omega) (by simpa using FQ) rfl
     simpa [iq] using this
  ·cases h
 |ref k' g ev off len =>
  simp only[ra] at h
  split at h
  ·rename_i G;obtain⟨rfl,rfl⟩:=G;unfold mw at h
   split at h
   ·rename_i c0 cs M
    split at h
    ·rename_i G;obtain⟨rfl,hlen,FQ,wz,x0⟩:=G
     cases h;obtain⟨Dm,pQ,b2,Dh,ae⟩:=b0.at_ M;have vf:c0+1=bY mem k':=by simp[bY,M]
     cases e8 with
     |ref he a9 aa =>
      rw[pQ] at he
      cases he;obtain⟨cQ,cap,rfl,E,H,af⟩:=aa
      have hold:∃pO,dq w (cb A B) B (cs.take (len*D z)) pO/\D pO=len*D z/\(0<len->∃b off,cQ=some ⟨b,off,none⟩/\eI w b off pO):=by
       rcases af with af|⟨b,rfl,aP⟩
       ·have:len=0:=by omega
        subst this;exact⟨[],by simpa using dq.nil,by simp,λh=>by omega⟩
       ·obtain⟨bt,bU⟩:=aP b2.symm;obtain⟨vs,T,aT,Dn,hle,zq⟩:=ae b bt;refine⟨(vs.toList.take (D cs)).take (len*D z),zq.take _,by have:=(zq.take (len*D z)).1;rw[this];simp;omega,λ_=>⟨b,0,rfl,((eI.row aT).take _).take _⟩⟩
      obtain⟨pO,ado,apj,adp⟩:=hold
      by_cases xZ:len+n<=cap
      ·rcases af with af|⟨b,rfl,aP⟩
       ·-- no room, and nothing comes
        have nY:len=0:=by omega
        have jF:n=0:=by omega
        subst nY;subst jF;subst af
        have FV:vals=[]:=tt (by simpa using mA);have Tv:new=[]:=tt (by simpa using pP);subst FV;subst Tv
        refine⟨_,_,gB B k' ⟨bY mem k',none,0⟩,Tu (P:=P) (ty:=ty) bA U (bX _) (aK w rfl) w (λb _=>by simp[storeCells]) (λ_=>rfl),?_,?_⟩
        ·have:=eH.xV b0 k'
         simpa [iq,vf] using this
        ·rw[vf];exact .ref (hx _ _ _) (bX _) ⟨_,0,rfl,bX _,fs _,.inl rfl⟩
       ·obtain⟨bt,bU⟩:=aP b2.symm;obtain⟨vs,T,aT,Dn,hle,zq⟩:=ae b bt;have hmul:(len+n)*D z<=cap*D z:=vd _ xZ;have adq:(len+n)*D z=len*D z+n*D z:=qh _ _ _;have dy:=run_storeCells_at P b (len*D z) T vals 0 vs w aT (by omega) (bZ.Tt x0);simp only[nX] at dy
        have FU:pO=vs.toList.take (len*D z):=by
         apply pM;intro j;rcases ir j (len*D z) with ah|ah
         ·have ib:0<len:=by
           rcases k6 len with h|h
           ·subst h;simp at ah
           ·exact h
          obtain⟨ft,aHe,adr,N5⟩:=adp ib;simp only[cm,Addr.mk.injEq,and_true] at adr;obtain⟨rfl,rfl⟩:=adr;have vg:j<D pO:=by omega
          have pd:=N5 j _ (bu vg);rw[kH,cell_of_row w b j vs T (0,0) aT] at pd;rw[bu vg,u9,ab ah,<-pd,Array.getElem?_toList]
         ·rw[mx (by omega),u9,ag (by omega)]
        have ads:(vs.toList.take (len*D z)++vals++vs.toList.drop (len*D z+D vals)).toArray.size=Dm.size:=by
         simp;omega
        have f:Fr (λb=>∃e,B k'=some e/\e.dz=some b) w (w.setRow b (vs.toList.take (len*D z)++vals++vs.toList.drop (len*D z+D vals)).toArray):=by
         refine⟨rfl,rfl,rfl,by simp,λj ah bL=>?_⟩
         exact setRow_other w b j _ (λN0=>bL ⟨Dm,pQ,by rw[bt,N0]⟩)
        have JT:(cs.take (len*D z)++new).length=len*D z+D vals:=by
         rw[fQ,pP,mA,gC,oK hlen]
        have ok:=eH.change (k:=k') (e':=⟨c0+1,some b,Dm.size⟩) (cs:=cs.take (len*D z)++new) b0 f
         (λaB fq => .inr (by rw[pQ] at fq;cases fq;simp only;omega)) (λee eR => .inr ⟨Dm,pQ,by rw[bt];exact eR⟩) (λaH=>by cases aH) (λee eR=>by
          cases eR;refine⟨_,T,setRow_heap w b vs _ T (0,0) aT,ads,by rw[ads,JT,mA];omega,λi m hm=>?_⟩
          have fh:=ado.append bZ;obtain⟨v,ak,aa⟩:=fh.get hm;refine⟨v,?_,aa⟩;rw[FU] at ak;have az:i<(vs.toList.take (len*D z)++vals).length:=(dP.1 ak).1;simp only[adt];rw[qq az];exact ak)
        refine⟨_,_,_,Tu (P:=P) (ty:=ty) (a:=de) (c:=c2) (vals:=vals) bA U xZ (aK w rfl) _ (λft kG=>by
         cases kG;rw[zm,kH];exact dy) (λh=>by cases h),ok,?_⟩
        exact .ref (hx _ _ _) (bX _) ⟨_,cap,rfl,xZ,H,.inr ⟨b,rfl,λ_=>⟨rfl,bU⟩⟩⟩
      ·have:=grow cQ len cap (c0+1) k' (cs.take (len*D z)) pO (by omega) (λaQ hw=>N4 (P:=P) (w:=w) apj adp aQ hw) ado (by rw[gC,oK hlen]) wz FQ vf;exact this
    ·cases h
   ·cases h
  ·cases h
 |_=>simp[ra] at h
theorem apk {t u ty e:TypeId}{sz n:Nat}{dJ cU:Q}{qt kJ:Value}{new:List Q}{r:Q}{jW:Option (Key×Nat×List Q)}(b0:fr A w B mem)(bA:P.underlying t=some (.slice e))(U:gn P e=some sz)
  (e8:bq w (cb A B) B dJ qt) (et:bq w (cb A B) B cU kJ) (eS:qk mem sz cU=some (n,new)) (h:wq mem sz dJ (some (n,new))=some (r,jW)) :
  ∃v aQ,(Builtin.copy_ #[t,u] ty #[qt,kJ]).run P w=.ok v aQ/\eH A w B aQ B (iq mem jW)/\bq aQ (cb A B) B r v:=by
 obtain⟨de,c2,vals,rfl,bZ,mA,cg⟩:=adn b0 et eS;have pP:(D new)=n*sz:=by rw[<-bZ.1,mA]
 cases dJ with
 |ref k g ev off len =>
  simp only[wq] at h
  split at h
  ·rename_i e4;subst e4;unfold A7 at h
   split at h
   ·rename_i c0 cs M
    split at h
    ·rename_i G;obtain⟨rfl,JN,x0⟩:=G
     cases h;obtain⟨Dm,pQ,b2,Dh,ae⟩:=b0.at_ M;have FW:Nat.min n len=min n len:=rfl;have hle:min n len<=n:=Nat.min_le_left _ _;have Tw:min n len<=len:=Nat.min_le_right _ _;have mz:min n len*ev<=n*ev:=vd _ hle;have aHf:min n len*ev<=len*ev:=vd _ Tw;have oI:(vals.take (min n len*ev)).length=min n len*ev:=by rw[gC,mA,oK mz]
     have Be:∀(a:Option Addr) (c:Nat),(0<n->∃b off,a=some ⟨b,off,none⟩/\eI w b off vals)->(Builtin.firstCells ev (min n len) (.slice a n c)).run P w=.ok (vals.take (min n len*ev)).toArray w:=by
      intro a c cg
      have:=N4 (P:=P) (w:=w) (sz:=ev) (n:=min n len) (c:=c) (a:=a) (vals:=vals.take (min n len*ev)) oI (λh=>by
       obtain⟨b,off,E,H⟩:=cg (by omega);exact⟨b,off,E,H.take _⟩) w rfl
      cases a with
      |none=>simpa [Builtin.firstCells] using this
      |some a=>simpa [Builtin.firstCells] using this
     cases e8 with
     |ref he a9 aa =>
      rw[pQ] at he
      cases he;obtain⟨cQ,cap,rfl,E,H,af⟩:=aa;simp only[gn,dY] at U;obtain⟨i,J,Tx⟩:=U;rcases af with af|⟨b,rfl,aP⟩
      ·have nY:len=0:=by omega
       subst nY;have k8:min n 0=0:=Nat.min_zero _;have rl:kY cs off (new.take (min n 0*ev))=cs:=by simp[kY]
       have dy:∀a:Addr,(storeCells a ([]:List Value)).run P w=.ok () w:=λa=>by simp[storeCells]
       have JU:=Be de c2 cg;simp only[k8,Nat.zero_mul,List.take_zero] at JU
       have fW:gB B k Dm=B:=by
        funext j;unfold gB;split
        ·rename_i ah;rw[ah,pQ]
        ·rfl
       refine⟨.int .i64 0,w,?_,?_,by simpa using bq.ofInt⟩
       ·cases cQ with
        |none=>simp[Builtin.copy_,run_underlying bA,Builtin.lenOf,sizeOf,typeInfo,J,Tx,JU,goInt]
        |some a=>simp[Builtin.copy_,run_underlying bA,Builtin.lenOf,sizeOf,typeInfo,J,Tx,JU,dy,goInt]
       ·have gp:a1 mem k c0 cs=mem:=by
         funext j;unfold a1;split
         ·rename_i ah;rw[ah,M]
         ·rfl
        simp only[iq,rl,gp];exact .refl b0
      ·obtain⟨bt,bU⟩:=aP b2.symm;obtain⟨vs,T,aT,Dn,JV,zq⟩:=ae b bt;have dy:=run_storeCells_at P b off T (vals.take (min n len*ev)) 0 vs w aT (by omega) (λv ak=>bZ.Tt x0 v (FN ak));simp only[nX] at dy;refine⟨.int .i64 ((min n len:Nat):Int),_,?_,Tq b0 M pQ bt aT Dn JV zq b2 (by rw[gC,pP,oK mz];omega) (bZ.take (min n len*ev)),.ofInt⟩;have JU:=Be de c2 cg;simp[Builtin.copy_,run_underlying bA,Builtin.lenOf,sizeOf,typeInfo,J,Tx,FW,JU,dy,goInt]
    ·cases h
   ·cases h
  ·cases h
 |_=>simp[wq] at h
theorem apl {z:Array Value}(ao:0<z.size)(n:Nat):(Builtin.zeroCells z n).toList=(dD n z.toList).flatten:=by
 unfold Builtin.zeroCells;exact NZ ao n
theorem apm {t ty e:TypeId}{z:List Q}{dJ:Q}{qt:Value}{r:Q}{jW:Option (Key×Nat×List Q)}(b0:fr A w B mem)(bA:P.underlying t=some (.slice e))(aW:zeroOf P e=some z)(ao:0<D z)
  (e8:bq w (cb A B) B dJ qt) (h:xP mem z dJ=some (r,jW)) :
  ∃v aQ,(Builtin.clear_ #[t] ty #[qt]).run P w=.ok v aQ/\eH A w B aQ B (iq mem jW)/\bq aQ (cb A B) B r v:=by
 have adu:∀aQ:World,bq aQ (cb A B) B (.cH []) (.tuple #[]):=λaQ=>bq.cH (cs:=[]) (vs:=[]) rfl λi d v Y=>by simp at Y
 cases dJ with
 |ref k g sz off len =>
  simp only[xP] at h
  split at h
  ·rename_i e4;subst e4;unfold NP at h
   split at h
   ·rename_i c0 cs M
    split at h
    ·rename_i G;obtain⟨rfl,JN,x0⟩:=G
     cases h;obtain⟨i,iW,J,tr,bZ⟩:=Dk (P:=P) (w:=w) (B:=B) (aX:=cb A B) aW;have FT:iW.cells.size=D z:=by have:=bZ.1;simp at this;omega
     obtain⟨Dm,pQ,b2,Dh,ae⟩:=b0.at_ M
     cases e8 with
     |ref he a9 aa =>
      rw[pQ] at he
      cases he;obtain⟨cQ,cap,rfl,E,H,af⟩:=aa;rcases k6 len with nY|nY
      ·subst nY;have rl:kY cs off (dD 0 z).flatten=cs:=by simp[kY]
       have gp:a1 mem k c0 cs=mem:=by
        funext j;unfold a1;split
        ·rename_i ah;rw[ah,M]
        ·rfl
       refine⟨.tuple #[],w,?_,?_,adu _⟩
       ·cases cQ<;>simp[Builtin.clear_,run_underlying bA]
       ·simp only[iq,rl,gp];exact .refl b0
      ·rcases af with af|⟨b,rfl,aP⟩
       ·omega
       ·obtain⟨bt,bU⟩:=aP b2.symm;obtain⟨vs,T,aT,Dn,JV,zq⟩:=ae b bt;have Bd:=bZ.replicate len;have wA:=apl (z:=iW.cells) (by omega) len;have pP:(dD len z).flatten.length=len*D z:=by simp
        have mA:(dD len iW.cells.toList).flatten.length=len*D z:=by simp[FT]
        have apn:(dD len z).flatten.all Q.one=true:=by
         rw[nq] at x0 ⊢;intro x O;obtain⟨y,ar,nZ⟩:=List.mem_flatten.1 O;exact x0 x (by rw[<-(List.mem_replicate.1 ar).2];exact nZ)
        have dy:=run_storeCells_at P b off T (dD len iW.cells.toList).flatten 0 vs w aT (by omega) (Bd.Tt apn);simp only[nX] at dy;refine⟨.tuple #[],_,?_,Tq b0 M pQ bt aT Dn JV zq b2 (by omega) Bd,adu _⟩;obtain⟨Tn,rfl⟩:∃l,len=l+1:=⟨len-1,by omega⟩
        simp[Builtin.clear_,run_underlying bA,JP J tr,wA,dy]
    ·cases h
   ·cases h
  ·cases h
 |_=>simp[xP] at h
end
end Go.Mini
namespace Go.Mini
open Go
variable {P:Program} {A:Nat->Prop} {w:World} {B:e5} {mem:Mem}
theorem apo {t e:TypeId}{sz l h len:Nat}{m r:Q}{v:Value}{k4 k5:Option Value}{cx J:Option Q}(b0:fr A w B mem)(bA:P.underlying t=some (.array len e))(U:gn P e=some sz)(aHg:len<=16777216)
  (fV:jR 0 cx=some l) (jn:jR len J=some h) (m1:rj w (cb A B) B cx k4) (lX:rj w (cb A B) B J k5) (hm:bq w (cb A B) B m v) (aa:A6 mem len sz l h m=some r) :
  ∃z,(Instr.sliceAt t v k4 k5 none).run P w=.ok z w/\bq w (cb A B) B r z:=by
 unfold A6 at aa
 split at aa
 ·rename_i k g off;unfold S9 at aa
  split at aa
  ·rename_i c0 cs M
   split at aa
   ·rename_i G;obtain⟨rfl,E,H,af⟩:=G
    cases aa
    cases hm with
    |ptr he a9 ak =>
     obtain⟨b,rfl,ae⟩:=ak;obtain⟨e',gz,b2,aH,fl⟩:=b0.at_ M;rw[gz] at he
     cases he;have jU:=ae b2.symm;obtain⟨vs,T,aT,aW,hle,_⟩:=fl b jU;refine⟨.slice (some (if len=l then ⟨b,off,none⟩ else ⟨b,off+l*sz,none⟩)) (h-l) (len-l),?_,.ref gz a9 ⟨_,len-l,rfl,by omega,by unfold maxLen;omega,?_⟩⟩
     ·simp[Instr.sliceAt,run_underlying bA,Instr.sureAddr,Tk (P:=P) (w:=w) false fV jn m1 lX E H,va U]
      split<;>simp[zm]
     ·rcases NX (eQ E H) with av|av
      ·exact .inl (by omega)
      ·refine .inr ⟨b,by rw[ag (by omega)],λ_=>⟨jU,?_⟩⟩
       have:off+l*sz+(len-l)*sz=off+len*sz:=by
        rw[qp,<-qh]
        congr 2
        omega
       omega
   ·cases aa
  ·cases aa
 ·cases aa
theorem apq {dI:List Field}(h:(dI.all λf=>(gn P f.type).isSome)=true):∃ps:List (Nat×Nat),(dI.mapM λf=>(do pure (f.offset,<-sizeOf f.type):Sem (Nat×Nat))).run P w=.ok ps w /\
  ∀i:Nat,ps[i]?=u6 P dI.toArray i:=by
 induction dI with
 |nil=>exact⟨[],by simp,λi=>by simp[u6]⟩
 |cons f r aA =>
  simp only[List.all_cons,e9] at h;obtain⟨ps,E,H⟩:=aA h.2;obtain⟨s,U⟩:=adv.1 h.1;refine⟨(f.offset,s)::ps,?_,λi=>?_⟩
  ·simp only[lz,Sem.run_bind,va U,Result.andThen_ok,Sem.run_pure];rw[E]
   rfl
  ·cases i with
   |zero=>simp[u6,U]
   |succ i =>
    have:=H i;simp only[u6,adt,List.getElem?_cons_succ] at this ⊢;exact this
theorem apr {p q:Nat->Option (Nat×Nat)}(h:∀i,p i=q i)(cs:Array Value)(l:List (Nat×Value)):Instr.fill p cs l=Instr.fill q cs l:=by
 rw[show p=q from funext h]
theorem aps {t:TypeId}{dI:Array Field}{z r:List Q}{ps:List (Nat×Operand)}{eB:List (Nat×Nat×bS)}{ρ:Operand->Value}{tm:Nat->Q}{aX:Nat->Prop}(bA:P.underlying t=some (.struct dI))(aW:zeroOf P t=some z)
  (aM:(dI.toList.all λf=>(gn P f.type).isSome)=true) (aF:partsOf (u6 P dI) ps=some eB) (hρ:∀x y,dH x=some y->bq w aX B (a3 tm y) (ρ x))
  (h:kF (a3 tm) z eB=some r):∃v,(Instr.build t (ps.map λp=>(p.1,ρ p.2)).toArray).run P w=.ok v w/\bq w aX B (.agg r) v:=by
 obtain⟨i,iW,J,tr,bZ⟩:=Dk (P:=P) (w:=w) (B:=B) (aX:=aX) aW;obtain⟨pl,E,H⟩:=apq (w:=w) aM;obtain⟨oJ,aK,aa⟩:=NY (place:=u6 P dI) hρ ps eB _ r _ aF bZ h;refine⟨.agg oJ,?_,by rw[show oJ=oJ.toList.toArray from by simp];exact .agg aa.1 aa.2⟩
 ·have sj:∀i,pl.toArray[i]?=u6 P dI i:=λi=>by simpa using H i
  have hm:(dI.mapM λf=>(do pure (f.offset,<-sizeOf f.type):Sem (Nat×Nat))).run P w=.ok pl.toArray w:=by
   rw[Array.mapM_eq_mapM_toList];rw[map_eq_pure_bind];simp only[Sem.run_bind,E,Result.andThen_ok,Sem.run_pure]
  simp only[Instr.build,Sem.run_bind,JP J tr,Result.andThen_ok,Sem.run_pure,run_underlying bA,hm,apr sj,aK]
theorem apt {t e:TypeId}{n sz:Nat}{z r:List Q}{ps:List (Nat×Operand)}{eB:List (Nat×Nat×bS)}{ρ:Operand->Value}{tm:Nat->Q}{aX:Nat->Prop}(bA:P.underlying t=some (.array n e))(aW:zeroOf P t=some z)
  (U:gn P e=some sz) (aF:partsOf (λi=>some (i*sz,sz)) ps=some eB) (hρ:∀x y,dH x=some y->bq w aX B (a3 tm y) (ρ x))
  (h:kF (a3 tm) z eB=some r):∃v,(Instr.build t (ps.map λp=>(p.1,ρ p.2)).toArray).run P w=.ok v w/\bq w aX B (.agg r) v:=by
 obtain⟨i,iW,J,tr,bZ⟩:=Dk (P:=P) (w:=w) (B:=B) (aX:=aX) aW;obtain⟨oJ,aK,aa⟩:=NY (place:=λi=>some (i*sz,sz)) hρ ps eB _ r _ aF bZ h;refine⟨.agg oJ,?_,by rw[show oJ=oJ.toList.toArray from by simp];exact .agg aa.1 aa.2⟩
 simp only[Instr.build,Sem.run_bind,JP J tr,Result.andThen_ok,Sem.run_pure,run_underlying bA,va U,aK]
end Go.Mini
namespace Go.Mini
open Go
variable {P:Program} {A:Nat->Prop} {w:World} {B:e5} {mem:Mem}
def apu (n:Next)(v:Value):Prop:=n=.value v\/(n=.skip/\v=undef)
def iv (A:Nat->Prop)(w:World)(B:e5)(run:Result Next)(mem':Mem)(r:Q):Prop :=
 ∃n v aQ bs,run=.ok n aQ/\apu n v/\eH A w B aQ bs mem'/\bq aQ (cb A bs) bs r v
theorem iv.mC {s:Sem Value}{r:Q}(b0:fr A w B mem)(h:∃v,s.run P w=.ok v w/\bq w (cb A B) B r v):iv A w B ((do pure (.value (<-s)):Sem Next).run P w) mem r:=by
 obtain⟨v,E,H⟩:=h;exact⟨.value v,v,w,B,by simp[E],.inl rfl,.refl b0,H⟩
theorem iv.of {s:Sem Value}{mem':Mem}{r:Q}(h:∃v aQ bs,s.run P w=.ok v aQ/\eH A w B aQ bs mem'/\bq aQ (cb A bs) bs r v):iv A w B ((do pure (.value (<-s)):Sem Next).run P w) mem' r:=by
 obtain⟨v,aQ,bs,E,H,af⟩:=h;exact⟨.value v,v,aQ,bs,by simp[E],.inl rfl,H,af⟩
theorem adw {x:Option Q}{r:Q}{jW:Option (Key×Nat×List Q)}(h:jl x=some (r,jW)):x=some r/\jW=none:=by
 unfold jl at h
 split at h<;>cases h
 exact⟨rfl,rfl⟩
theorem qu {x:Option Nat}{f:Nat->Option Q}{r:Q}(h:h9 x f=some r):∃n,x=some n/\f n=some r:=by
 unfold h9 at h
 split at h
 ·exact⟨_,rfl,h⟩
 ·cases h
theorem adx {x y:Option Nat}{f:Nat->Nat->Out}{r:Q×Option (Key×Nat×List Q)}(h:JA x y f=some r):∃n m,x=some n/\y=some m/\f n m=some r:=by
 unfold JA at h
 split at h
 ·exact⟨_,_,rfl,rfl,h⟩
 ·cases h
theorem Dp {aX:Nat->Prop}{ρ:Operand->Value}{tm:Nat->Q}(hρ:∀x y,dH x=some y->bq w aX B (a3 tm y) (ρ x)){x:Option Operand}{y:Option bS}(h:tk x=some y):rj w aX B (y.map (a3 tm)) (x.map ρ):=by
 cases x with
 |none=>simp[tk] at h;subst h;simp[rj]
 |some x =>
  simp only[tk,dY] at h;obtain⟨y',ar,rfl⟩:=h;simp only[mB,rj];exact hρ _ _ ar
theorem ady {dI:Array Field}{f o s:Nat}(h:u6 P dI f=some (o,s)):∃fd,dI[f]?=some fd/\fd.offset=o/\gn P fd.type=some s:=by
 simp only[u6,hi,hy,er,cm,fo] at h;obtain⟨fd,E,adz,H,af,aP⟩:=h;exact⟨fd,E,af,aP ▸ H⟩
theorem x1 {aX:Nat->Prop}{ρ:Operand->Value}{tm:Nat->Q}(hρ:∀x y,dH x=some y->bq w aX B (a3 tm y) (ρ x)):∀{l:List Operand} {r:List bS},l.mapM dH=some r->dq w aX B (r.map (a3 tm)) (l.map ρ)
 | [],r,h=>by simp at h;subst h;exact dq.nil
 |x::l,r,h=>by
  simp only[lz,hi,hy,er,cm] at h;obtain⟨y,ar,FH,aa,rfl⟩:=h;exact dq.cons (hρ _ _ ar) (x1 hρ aa)
theorem Bf {α β:Type}(a:Array α)(f:α->β):a.map f=(a.toList.map f).toArray:=by
 apply Array.ext';simp
theorem jo {tm:Nat->Q}{m:kp}{r:Q}{jW:Option (Key×Nat×List Q)}{x:Option Q}(h:cl mem tm m=some (r,jW))(e:cl mem tm m=jl x):x=some r/\jW=none:=adw (e.symm.trans h)
theorem apv {ρ:Operand->Value}{tm:Nat->Q}{kb:Nat}{own:List Nat}{dst:Option Tmp}{type:TypeId}{c:Call}{m:kp}{r:Q}{jW:Option (Key×Nat×List Q)}(b0:fr A w B mem)
  (hρ:∀x y,dH x=some y->bq w (cb A B) B (a3 tm y) (ρ x)) (a0:xR P kb own dst type c=some m) (h:cl mem tm m=some (r,jW)) :
  iv A w B ((do let d <-resolve ρ c type;invoke d.target d.args:Sem Next).run P w) (iq mem jW) r:=by
 obtain⟨callee,args,argTypes⟩:=c;have two:∀{α:Type} (a:Array α) (x y:α),a.toList=[x,y]->a=#[x,y]:=λa x y h=>Array.ext' (by simpa using h);have one:∀{α:Type} (a:Array α) (x:α),a.toList=[x]->a=#[x]:=λa x h=>Array.ext' (by simpa using h);unfold xR at a0
 split at a0
 ·rename_i x t G aM bA;simp only at G aM bA;subst G;obtain rfl:=one _ _ aM;obtain rfl:=one _ _ bA
  split at a0
  ·rename_i e hu;simp only[dY] at a0;obtain⟨y,ar,rfl⟩:=a0;obtain⟨aO,rfl⟩:=jo h rfl;obtain⟨n,aH,aO⟩:=qu aO
   cases aO;have:=aoR (P:=P) (w:=w) t type e hu (hρ _ _ ar) aH;exact⟨.value _,_,w,B,by simp[resolve,invoke,builtin,this],.inl rfl,.refl b0,.I .int⟩
  ·rename_i hu;simp only[dY] at a0;obtain⟨y,ar,rfl⟩:=a0;obtain⟨aO,rfl⟩:=jo h rfl;obtain⟨n,aH,aO⟩:=qu aO
   cases aO;have:=aoS (P:=P) (w:=w) t type hu (hρ _ _ ar) aH;exact⟨.value _,_,w,B,by simp[resolve,invoke,builtin,this],.inl rfl,.refl b0,.I .int⟩
  ·cases a0
 ·rename_i s x t u G aM bA;simp only at G aM bA;subst G;obtain rfl:=two _ _ _ aM;obtain rfl:=two _ _ _ bA
  split at a0
  ·rename_i e aB hu adA;simp only[hi,hy,er] at a0;obtain⟨z,aW,b,ae,n,aH,d,Y,adz,iX,jq,vh,aT⟩:=a0
   split at aT
   ·rename_i hH;obtain⟨rfl,ao,rfl⟩:=hH
    cases aT;simp only[cl] at h
    cases eS:qk mem (D z) (a3 tm jq) with
    |none =>
     rw[eS] at h
     revert h
     cases a3 tm adz<;>simp[ra]
    |some p =>
     obtain⟨k,new⟩:=p;rw[eS] at h;obtain⟨v,aQ,bs,E,H,af⟩:=aph (ty:=type) _ b0 hu aW aH ae ao (hρ _ _ iX) (hρ _ _ vh) eS h;exact⟨.value v,v,aQ,bs,by simp[resolve,invoke,builtin,E],.inl rfl,H,af⟩
   ·cases aT
  ·cases a0
 ·rename_i aHh x t u G aM bA;simp only at G aM bA;subst G;obtain rfl:=two _ _ _ aM;obtain rfl:=two _ _ _ bA
  split at a0
  ·rename_i e aB hu adA;simp only[hi,hy,er] at a0;obtain⟨n,aH,aT⟩:=a0
   split at aT
   ·rename_i ao;simp only[er,cm] at aT;obtain⟨x2,nn,jq,vh,rfl⟩:=aT;simp only[cl] at h
    cases eS:qk mem n (a3 tm jq) with
    |none =>
     rw[eS] at h
     revert h
     cases a3 tm x2<;>simp[wq]
    |some p =>
     obtain⟨k,new⟩:=p;rw[eS] at h;obtain⟨v,aQ,E,H,af⟩:=apk (u:=u) (ty:=type) b0 hu aH (hρ _ _ nn) (hρ _ _ vh) eS h;exact⟨.value v,v,aQ,B,by simp[resolve,invoke,builtin,E],.inl rfl,H,af⟩
   ·cases aT
  ·cases a0
 ·rename_i x t G aM bA;simp only at G aM bA;subst G;obtain rfl:=one _ _ aM;obtain rfl:=one _ _ bA
  split at a0
  ·rename_i e hu;simp only[hi,hy,er] at a0;obtain⟨z,aW,n,aH,aT⟩:=a0
   split at aT
   ·rename_i ao;simp only[er,cm] at aT;obtain⟨jq,vh,rfl⟩:=aT;simp only[cl] at h;obtain⟨v,aQ,E,H,af⟩:=apm (ty:=type) b0 hu aW (by omega) (hρ _ _ vh) h;exact⟨.value v,v,aQ,B,by simp[resolve,invoke,builtin,E],.inl rfl,H,af⟩
   ·cases aT
  ·cases a0
 ·rename_i x y G aM;simp only at G aM;subst G;obtain rfl:=two _ _ _ aM;simp only[hi,hy,er,cm] at a0;obtain⟨jq,O,y',ar,rfl⟩:=a0;obtain⟨aO,rfl⟩:=jo h rfl;obtain⟨z,E,H⟩:=ac8 (P:=P) argTypes type (hρ _ _ O) (hρ _ _ ar) aO;simp only[if_true] at E;exact⟨.value z,z,w,B,by simp[resolve,invoke,builtin,E],.inl rfl,.refl b0,H⟩
 ·rename_i x y G aM;simp only at G aM;subst G;obtain rfl:=two _ _ _ aM;simp only[hi,hy,er,cm] at a0;obtain⟨jq,O,y',ar,rfl⟩:=a0;obtain⟨aO,rfl⟩:=jo h rfl;obtain⟨z,E,H⟩:=ac8 (P:=P) argTypes type (hρ _ _ O) (hρ _ _ ar) aO;simp only[k0,if_false] at E;exact⟨.value z,z,w,B,by simp[resolve,invoke,builtin,E],.inl rfl,.refl b0,H⟩
 ·split at a0
  ·split at a0
   ·simp only[hi,hy,er,cm] at a0;obtain⟨_,_,_,_,_,_,rfl⟩:=a0
    cases h
   ·cases a0
  ·split at a0
   ·(repeat' split at a0)<;>simp only[hi,hy,er,cm] at a0
    all_goals
     obtain⟨_,_,rfl⟩:=a0
     cases h
   ·simp only[hi,hy,er,cm] at a0;obtain⟨_,_,rfl⟩:=a0
    cases h
 ·simp only[hi,hy,er,cm] at a0;obtain⟨_,_,_,_,rfl⟩:=a0
  cases h
 ·cases a0
theorem adB {ρ:Operand->Value}{tm:Nat->Q}{kb:Nat}{own:List Nat}{o:Oper}{m:kp}{r:Q}{jW:Option (Key×Nat×List Q)}(b0:fr A w B mem)
  (hρ:∀x y,dH x=some y->bq w (cb A B) B (a3 tm y) (ρ x)) (a0:jT P kb own o.dst o.type o.op=some m) (h:cl mem tm m=some (r,jW)) :
  iv A w B ((execOp ρ o).run P w) (iq mem jW) r:=by
 obtain⟨dst,op,type,pos,after,guard⟩:=o;simp only at a0
 cases op<;>simp only[jT] at a0<;>simp only[execOp]
 case move x =>
  simp only[dY] at a0;obtain⟨y,ar,rfl⟩:=a0;obtain⟨aO,rfl⟩:=jo (x:=some (a3 tm y)) h rfl
  cases aO;exact⟨_,_,w,B,rfl,.inl rfl,.refl b0,hρ _ _ ar⟩
 case assign x =>
  simp only[dY] at a0;obtain⟨y,ar,rfl⟩:=a0;obtain⟨aO,rfl⟩:=jo (x:=some (a3 tm y)) h rfl
  cases aO;exact⟨_,_,w,B,rfl,.inl rfl,.refl b0,hρ _ _ ar⟩
 case pick c a b =>
  simp only[hi,hy,er,cm] at a0;obtain⟨c',G,kI,aM,ft,ae,rfl⟩:=a0;obtain⟨aO,rfl⟩:=jo h rfl;have:=iv.mC b0 (aoF (P:=P) (hρ _ _ G) (hρ _ _ aM) (hρ _ _ ae) aO)
  simpa [iq] using this
 case alloc e =>
  simp only[hi,hy,er,cm] at a0;obtain⟨d,Y,z,aW,rfl⟩:=a0;simp only[cl,cm,fo] at h;obtain⟨rfl,rfl⟩:=h;exact iv.of (ao4 _ b0 aW)
 case box e x =>
  simp only[hi,hy,er,cm] at a0;obtain⟨d,Y,y,ar,rfl⟩:=a0;simp only[cl] at h
  split at h
  ·rename_i M;simp only[cm,fo] at h;obtain⟨rfl,rfl⟩:=h;exact iv.of (ao5 _ b0 (hρ _ _ ar) M)
  ·cases h
 case build t ps =>
  split at a0
  ·rename_i dI hu
   split at a0
   ·rename_i aM;simp only[hi,hy,er,cm] at a0;obtain⟨z,aW,eB,Bc,rfl⟩:=a0;obtain⟨aO,rfl⟩:=jo h rfl;simp only[kZ,dY] at aO;obtain⟨cs,k1,rfl⟩:=aO;rw[Bf];exact iv.mC b0 (aps hu aW aM Bc hρ k1)
   ·cases a0
  ·rename_i n e hu;simp only[hi,hy,er,cm] at a0;obtain⟨s,U,z,aW,eB,Bc,rfl⟩:=a0;obtain⟨aO,rfl⟩:=jo h rfl;simp only[kZ,dY] at aO;obtain⟨cs,k1,rfl⟩:=aO;rw[Bf];exact iv.mC b0 (apt hu aW U Bc hρ k1)
  ·cases a0
 case buildSlice t len ps =>
  split at a0
  ·rename_i e hu;simp only[hi,hy,er] at a0;obtain⟨z,aW,s,U,eB,Bc,d,Y,aT⟩:=a0
   split at aT
   ·rename_i G;obtain⟨wA,ao,av⟩:=G;simp only[cm] at aT;subst aT;rw[Bf]
    cases pR:own.contains d with
    |true =>
     rw[pR] at h;exact iv.of (apc _ b0 hu aW U wA ao av Bc hρ h)
    |false =>
     rw[pR] at h;obtain⟨aO,rfl⟩:=jo h rfl;obtain⟨v,aQ,E,H,af⟩:=apb b0 hu aW U wA ao av Bc hρ aO;exact iv.of ⟨v,aQ,B,E,H,af⟩
   ·cases aT
  ·cases a0
 case load t x =>
  simp only[hi,hy,er,cm] at a0;obtain⟨n,aH,g,a9,y,ar,rfl⟩:=a0;obtain⟨aO,rfl⟩:=jo h rfl;exact iv.mC b0 (aoE aH a9 b0 (hρ _ _ ar) aO)
 case store t x v =>
  simp only[hi,hy,er,cm] at a0;obtain⟨n,aH,jq,O,Dg,ak,rfl⟩:=a0;obtain⟨aQ,E,H,rfl⟩:=ao7 b0 aH (hρ _ _ O) (hρ _ _ ak) h;exact⟨.skip,undef,aQ,B,by simp[E],.inr ⟨rfl,rfl⟩,H,.no⟩
 case nilCheck x =>
  simp only[dY] at a0;obtain⟨y,ar,rfl⟩:=a0;obtain⟨aO,rfl⟩:=jo h rfl;obtain⟨⟨b,off,O⟩,aa⟩:=aoT (hρ _ _ ar) aO;rw[O] at aa ⊢;exact⟨_,_,w,B,rfl,.inl rfl,.refl b0,aa⟩
 case binOp bop t x y pos2 =>
  unfold zg at a0
  split at a0
  ·split at a0
   ·rename_i jq y' O ar
    cases a0;obtain⟨aO,rfl⟩:=jo h rfl;exact iv.mC b0 (acY t x y (hρ _ _ O) (hρ _ _ ar) aO)
   ·cases a0
  ·split at a0
   ·rename_i jq y' O ar
    cases a0;obtain⟨aO,rfl⟩:=jo h rfl;exact iv.mC b0 (acY t x y (hρ _ _ O) (hρ _ _ ar) aO)
   ·cases a0
  ·rename_i hu
   split at a0
   ·rename_i jq y' O ar
    cases a0;obtain⟨aO,rfl⟩:=jo h rfl;exact iv.mC b0 (acZ (neg:=false) t x y hu (hρ _ _ O) (hρ _ _ ar) aO)
   ·rename_i jq y' O ar
    cases a0;obtain⟨aO,rfl⟩:=jo h rfl;exact iv.mC b0 (acZ (neg:=true) t x y hu (hρ _ _ O) (hρ _ _ ar) aO)
   ·cases a0
  ·rename_i dI hu
   split at a0
   ·unfold wx at a0
    split at a0
    ·rename_i G
     split at a0
     ·rename_i gZ jq y' M O ar
      cases a0;obtain⟨aO,rfl⟩:=jo h rfl;exact iv.mC b0 (ac5 (neg:=false) t x y dI hu G.1 G.2 M (hρ _ _ O) (hρ _ _ ar) aO)
     ·cases a0
    ·cases a0
   ·unfold wx at a0
    split at a0
    ·rename_i G
     split at a0
     ·rename_i gZ jq y' M O ar
      cases a0;obtain⟨aO,rfl⟩:=jo h rfl;exact iv.mC b0 (ac5 (neg:=true) t x y dI hu G.1 G.2 M (hρ _ _ O) (hρ _ _ ar) aO)
     ·cases a0
    ·cases a0
   ·cases a0
  ·split at a0
   ·split at a0
    ·simp only[dY] at a0;obtain⟨_,_,rfl⟩:=a0
     cases h
    ·simp only[dY] at a0;obtain⟨_,_,rfl⟩:=a0
     cases h
    ·cases a0
   ·cases a0
  ·cases a0
 case unOp uop t x =>
  simp only[dY] at a0;obtain⟨y,ar,rfl⟩:=a0;obtain⟨aO,rfl⟩:=jo h rfl;exact iv.mC b0 (aoG (hρ _ _ ar) aO)
 case convert s t x =>
  split at a0
  ·rename_i gZ k U bA;simp only[dY] at a0;obtain⟨y,ar,rfl⟩:=a0;obtain⟨aO,rfl⟩:=jo h rfl;exact iv.mC b0 (aoH s t gZ U bA (hρ _ _ ar) aO)
  ·cases a0
 case makeFunc fn first eP =>
  cases fn<;>simp only[reduceCtorEq] at a0
  split at a0
  ·rename_i e4;simp only[hi,hy,er,cm] at a0;obtain⟨cs,k1,rfl⟩:=a0;obtain⟨aO,rfl⟩:=jo (x:=some (.fA _ (cs.map (a3 tm)))) h rfl
   cases aO;have apw:first=#[]:=Array.eq_empty_of_size_eq_zero e4
   subst apw;have av:=x1 hρ k1;exact iv.mC b0 ⟨_,by rw[Bf eP,Array.map_empty];rfl,.fA av.1 av.2⟩
  ·cases a0
 case makeSlice t l c =>
  split at a0
  ·rename_i e he;simp only[hi,hy,er] at a0;obtain⟨z,aW,s,U,b,ae,d,Y,aT⟩:=a0
   split at aT
   ·rename_i G;simp only[er,cm] at aT;obtain⟨fS,av,c',lZ,rfl⟩:=aT;simp only[cl] at h;obtain⟨iw,jr,E,H,af⟩:=adx h;obtain⟨rfl,ao⟩:=G;exact iv.of (ao6 _ b0 he aW U ae E H (hρ _ _ av) (hρ _ _ lZ) ao af)
   ·cases aT
  ·cases a0
 case slice t x cx J kq =>
  split at a0
  ·rename_i e hu;simp only[hi,hy,er] at a0;obtain⟨s,U,aT⟩:=a0
   split at aT
   ·simp only[er,cm] at aT;obtain⟨y,ar,adC,fV,ks,jn,JW,ia,rfl⟩:=aT;have m1:=Dp hρ fV;have lX:=Dp hρ jn;have FM:=Dp hρ ia
    cases JW with
    |none =>
     cases kq with
     |some v=>simp[tk,dY] at ia
     |none =>
      obtain⟨aO,rfl⟩:=jo h rfl;obtain⟨l,av,aO⟩:=qu aO;obtain⟨len,hlen,aO⟩:=qu aO;obtain⟨aT,Dq,aO⟩:=qu aO;exact iv.mC b0 (aoX hu U av hlen Dq m1 lX (hρ _ _ ar) aO)
    |some JW =>
     cases ks with
     |none=>cases h
     |some ks =>
      cases J with
      |none=>simp[rj] at lX
      |some J =>
       cases kq with
       |none=>simp[rj] at FM
       |some kq =>
        obtain⟨aO,rfl⟩:=jo h rfl;obtain⟨l,av,aO⟩:=qu aO;obtain⟨aT,Dq,aO⟩:=qu aO;obtain⟨m,hm,aO⟩:=qu aO;exact iv.mC b0 (aoZ hu U av Dq hm m1 lX FM (hρ _ _ ar) aO)
   ·cases aT
  ·rename_i n e hu;simp only[hi,hy,er] at a0;obtain⟨s,U,aT⟩:=a0
   split at aT
   ·rename_i G;simp only[er,cm] at aT;obtain⟨y,ar,adC,fV,ks,jn,JW,ia,rfl⟩:=aT;have m1:=Dp hρ fV;have lX:=Dp hρ jn
    cases JW with
    |none =>
     cases kq with
     |some v=>simp[tk,dY] at ia
     |none =>
      obtain⟨aO,rfl⟩:=jo h rfl;obtain⟨l,av,aO⟩:=qu aO;obtain⟨aT,Dq,aO⟩:=qu aO;exact iv.mC b0 (apo b0 hu U G.2 av Dq m1 lX (hρ _ _ ar) aO)
    |some JW=>cases h
   ·cases aT
  ·rename_i hu
   split at a0
   ·rename_i ia;simp only[hi,hy,er,cm] at a0;obtain⟨y,ar,adC,fV,ks,jn,rfl⟩:=a0;have m1:=Dp hρ fV;have lX:=Dp hρ jn
    cases kq with
    |some v=>cases ia
    |none =>
     obtain⟨aO,rfl⟩:=jo h rfl;obtain⟨l,av,aO⟩:=qu aO;obtain⟨len,hlen,aO⟩:=qu aO;obtain⟨aT,Dq,aO⟩:=qu aO;exact iv.mC b0 (ao0 hu av hlen Dq m1 lX (hρ _ _ ar) aO)
   ·cases a0
  ·cases a0
 case fieldAddr t x f =>
  split at a0
  ·rename_i dI hu;simp only[hi,hy,er] at a0;obtain⟨⟨o,s⟩,aF,aT⟩:=a0
   split at aT
   ·rename_i ao;simp only[er,cm] at aT;obtain⟨y,ar,rfl⟩:=aT;obtain⟨fd,E,H,af⟩:=ady aF;obtain⟨aO,rfl⟩:=jo h rfl;exact iv.mC b0 (aoI t f dI fd s hu E af ao H (hρ _ _ ar) aO)
   ·cases aT
  ·cases a0
 case field t x f =>
  split at a0
  ·rename_i dI hu;simp only[hi,hy,er,cm] at a0;obtain⟨fd,Ty,⟨o,s⟩,aF,g,a9,y,ar,rfl⟩:=a0;obtain⟨aHi,E,H,af⟩:=ady aF;rw[Ty] at E
   cases E;obtain⟨aO,rfl⟩:=jo h rfl;exact iv.mC b0 (aoL t f dI fd hu Ty af a9 H (hρ _ _ ar) aO)
  ·cases a0
 case indexAddr t x i =>
  split at a0
  ·rename_i e hu;simp only[hi,hy,er] at a0;obtain⟨s,U,aT⟩:=a0
   split at aT
   ·simp only[er,cm] at aT;obtain⟨y,ar,j,ah,rfl⟩:=aT;obtain⟨aO,rfl⟩:=jo h rfl;obtain⟨n,aH,aO⟩:=qu aO;obtain⟨k,M⟩:=FK aH (hρ _ _ ah);rw[M];exact iv.mC b0 (aoN t e hu U (hρ _ _ ar) aO)
   ·cases aT
  ·rename_i len e hu;simp only[hi,hy,er] at a0;obtain⟨s,U,aT⟩:=a0
   split at aT
   ·simp only[er,cm] at aT;obtain⟨y,ar,j,ah,rfl⟩:=aT;obtain⟨aO,rfl⟩:=jo h rfl;obtain⟨n,aH,aO⟩:=qu aO;obtain⟨k,M⟩:=FK aH (hρ _ _ ah);rw[M];exact iv.mC b0 (aoO t e hu U (hρ _ _ ar) aO)
   ·cases aT
  ·cases a0
 case index t x i =>
  split at a0
  ·rename_i hu;simp only[hi,hy,er,cm] at a0;obtain⟨y,ar,j,ah,rfl⟩:=a0;obtain⟨aO,rfl⟩:=jo h rfl;obtain⟨n,aH,aO⟩:=qu aO;obtain⟨k,M⟩:=FK aH (hρ _ _ ah);rw[M];exact iv.mC b0 (aoP t hu (hρ _ _ ar) aO)
  ·cases a0
 case extract x i =>
  simp only[dY] at a0;obtain⟨y,ar,rfl⟩:=a0;obtain⟨aO,rfl⟩:=jo h rfl;exact iv.mC b0 (aoQ (hρ _ _ ar) aO)
 case call c =>
  exact apv b0 hρ a0 h
 all_goals cases a0
end Go.Mini
namespace Go.Mini
open Go
inductive gD where
 |code (c:eA)
 |inBlock (id:Nat)
def cB (T:bb)(K:eY->ba->Prop):List gD->eY->ba->Prop
 | [],e,st=>K e st
 |.code c::k,.normal,st=>wp T c (cB T K k) st
 |.code _::k,.exit id,st=>cB T K k (.exit id) st
 |.code _::k,.ret,st=>cB T K k .ret st
 |.inBlock _::k,.normal,st=>cB T K k .normal st
 |.inBlock j::k,.exit id,st=>if id=j then cB T K k .normal st else cB T K k (.exit id) st
 |.inBlock _::k,.ret,st=>cB T K k .ret st
section
variable {T:bb} {K:eY->ba->Prop} {k:List gD} {st:ba}
theorem apx (c:eA):(λe dO=>match e with
  |.normal=>wp T c (cB T K k) dO
  |e=>cB T K k e dO)=cB T K (.code c::k):=by
 funext e dO
 cases e<;>rfl
theorem apy (id:Nat):(λe dO=>match e with
  |.exit j=>if j=id then cB T K k .normal dO else cB T K k (.exit j) dO
  |e=>cB T K k e dO)=cB T K (.inBlock id::k):=by
 funext e dO
 cases e<;>rfl
@[go_sem] theorem apz (e:eY):cB T K [] e st=K e st:=by cases e<;>rfl
@[go_sem] theorem aHj (c:eA):cB T K (.code c::k) .normal st=wp T c (cB T K k) st:=bw
@[go_sem] theorem aHk (c:eA)(id:Nat):cB T K (.code c::k) (.exit id) st=cB T K k (.exit id) st:=bw
@[go_sem] theorem aHl (c:eA):cB T K (.code c::k) .ret st=cB T K k .ret st:=bw
@[go_sem] theorem aHm (id:Nat):cB T K (.inBlock id::k) .normal st=cB T K k .normal st:=bw
@[go_sem] theorem aHn (id j:Nat):cB T K (.inBlock j::k) (.exit id) st=if id=j then cB T K k .normal st else cB T K k (.exit id) st:=bw
@[go_sem] theorem aHo (id:Nat):cB T K (.inBlock id::k) .ret st=cB T K k .ret st:=bw
theorem qv {c:eA}(h:wp T c (cB T K []) st):wp T c K st:=by
 have:cB T K []=K:=by funext e st;cases e<;>rfl
 rwa [this] at h
@[go_sem] theorem wp_seq (a b:eA):wp T (.seq a b) (cB T K k) st=wp T a (cB T K (.code b::k)) st:=by
 rw[<-apx];rfl
@[go_sem] theorem wp_skip:wp T .skip (cB T K k) st=cB T K k .normal st:=bw
@[go_sem] theorem wp_ret:wp T .ret (cB T K k) st=cB T K k .ret st:=bw
@[go_sem] theorem wp_exit (id:Nat):wp T (.exit id) (cB T K k) st=cB T K k (.exit id) st:=bw
@[go_sem] theorem wp_block (id:Nat)(c:eA):wp T (.block id c) (cB T K k) st=wp T c (cB T K (.inBlock id::k)) st:=by
 rw[<-apy];rfl
def qw (T:bb)(K:eY->ba->Prop)(k:List gD)(m:Q)(a b:eA)(st:ba):Prop :=
 match m with
 |.I (.bool t)=>if t=true then wp T a (cB T K k) st else wp T b (cB T K k) st
 |_=>False
@[go_sem] theorem wp_cond (c:bS)(a b:eA):wp T (.cond c a b) (cB T K k) st=qw T K k (a3 st.tm c) a b st:=bw
@[go_sem] theorem apA (a b:eA):qw T K k (.I (.bool true)) a b st=wp T a (cB T K k) st:=bw
@[go_sem] theorem apB (a b:eA):qw T K k (.I (.bool false)) a b st=wp T b (cB T K k) st:=bw
def FX (T:bb)(K:eY->ba->Prop)(k:List gD)(l:List c6)(st:ba):Prop:=xQ T (cB T K k .normal) l st
@[go_sem] theorem wp_ops (l:List c6):wp T (.ops l) (cB T K k) st=FX T K k l st:=bw
@[go_sem] theorem aHp:FX T K k [] st=cB T K k .normal st:=bw
def rm (T:bb)(K:eY->ba->Prop)(k:List gD)(g:Option Bool)(i:c6)(r:List c6)(st:ba):Prop :=
 match g with
 |none=>False
 |some g=>if g=true then gA T (xQ T (cB T K k .normal) r) i st else FX T K k r ⟨put st.tm i.dst .no,st.mem⟩
@[go_sem] theorem aHq (i:c6)(r:List c6):FX T K k (i::r) st=rm T K k (pc st.tm i.g) i r st:=bw
@[go_sem] theorem aHr (i:c6)(r:List c6):rm T K k (some true) i r st=gA T (FX T K k r) i st:=bw
@[go_sem] theorem aHs (i:c6)(r:List c6):rm T K k (some false) i r st=FX T K k r ⟨put st.tm i.dst .no,st.mem⟩:=bw
def Bg (T:bb)(K:eY->ba->Prop)(k:List gD)(n:Nat)(l:List c6)(c:List (List Nat))(rec:Rec)(st:ba):Prop:=wv T (cB T K k .normal) n l c rec st
@[go_sem] theorem aHt (l:List c6)(c:List (List Nat)):wp T (.nj l c) (cB T K k) st=Bg T K k 0 l c (λ_=>none) st:=bw
@[go_sem] theorem aHu (n:Nat)(c:List (List Nat))(rec:Rec):Bg T K k n [] c rec st=cB T K k .normal st:=bw
def rn (T:bb)(K:eY->ba->Prop)(k:List gD)(n:Nat)(g:Option Bool)(i:c6)(r:List c6)(c:List (List Nat))(rec:Rec)(st:ba):Prop :=
 match g with
 |none=>False
 |some g=>if g=true then (match hG T st.mem st.tm i.op with
    |some (m,e)=>Fy rec (jS i.op,dE st.tm i.op) (c.headD [])=true/\Bg T K k (n+1) r c.tail (u5 rec n (jS i.op,dE st.tm i.op)) ⟨put st.tm i.dst m,iq st.mem e⟩
    |none=>False) else Bg T K k (n+1) r c.tail rec ⟨put st.tm i.dst .no,st.mem⟩
@[go_sem] theorem aHv (n:Nat)(i:c6)(r:List c6)(c:List (List Nat))(rec:Rec):Bg T K k n (i::r) c rec st=rn T K k n (pc st.tm i.g) i r c rec st:=bw
def adD (T:bb)(K:eY->ba->Prop)(k:List gD)(n:Nat)(x:Option (Q×Option (Key×Nat×List Q)))(i:c6)(r:List c6)(c:List (List Nat))(rec:Rec)(st:ba):Prop :=
 match x with
 |some (m,e)=>Fy rec (jS i.op,dE st.tm i.op) (c.headD [])=true/\Bg T K k (n+1) r c.tail (u5 rec n (jS i.op,dE st.tm i.op)) ⟨put st.tm i.dst m,iq st.mem e⟩
 |none=>False
@[go_sem] theorem aHw (n:Nat)(i:c6)(r:List c6)(c:List (List Nat))(rec:Rec):rn T K k n (some true) i r c rec st=adD T K k n (hG T st.mem st.tm i.op) i r c rec st:=bw
@[go_sem] theorem aHx (n:Nat)(i:c6)(r:List c6)(c:List (List Nat))(rec:Rec):rn T K k n (some false) i r c rec st=Bg T K k (n+1) r c.tail rec ⟨put st.tm i.dst .no,st.mem⟩:=bw
@[go_sem] theorem aHy (n:Nat)(m:Q)(e:Option (Key×Nat×List Q))(i:c6)(r:List c6)(c:List (List Nat))(rec:Rec):adD T K k n (some (m,e)) i r c rec st =
 (Fy rec (jS i.op,dE st.tm i.op) (c.headD [])=true/\Bg T K k (n+1) r c.tail (u5 rec n (jS i.op,dE st.tm i.op)) ⟨put st.tm i.dst m,iq st.mem e⟩):=bw
end
section
variable {T:bb} {K:ba->Prop} {st:ba} {tm:Nat->Q} {mem:Mem}
def jG (K:ba->Prop)(x:Option (Q×Option (Key×Nat×List Q)))(d:Option Nat)(st:ba):Prop :=
 match x with
 |some (m,e)=>K ⟨put st.tm d m,iq st.mem e⟩
 |none=>False
@[go_sem] theorem aHz (m:Q)(e:Option (Key×Nat×List Q))(d:Option Nat):jG K (some (m,e)) d st=K ⟨put st.tm d m,iq st.mem e⟩:=bw
variable (d:Option Nat) (g:Option (Nat×Bool))
@[go_sem] theorem aHA (x:bS):gA T K ⟨d,g,.cp x⟩ st=K ⟨put st.tm d (a3 st.tm x),st.mem⟩:=bw
@[go_sem] theorem aHB (c a b:bS):gA T K ⟨d,g,.pick c a b⟩ st=jG K (cl st.mem st.tm (.pick c a b)) d st:=bw
@[go_sem] theorem aHC (k:Key)(z:List Q):gA T K ⟨d,g,.alloc k z⟩ st=K ⟨put st.tm d (.ptr k (bY st.mem k) 0),a1 st.mem k (bY st.mem k) z⟩:=bw
@[go_sem] theorem aHD (k:Key)(x:bS):gA T K ⟨d,g,.box k x⟩ st=jG K (cl st.mem st.tm (.box k x)) d st:=bw
@[go_sem] theorem aHE (z:List Q)(ps:List (Nat×Nat×bS)):gA T K ⟨d,g,.build z ps⟩ st=jG K (cl st.mem st.tm (.build z ps)) d st:=bw
@[go_sem] theorem aHF (k:Key)(o:Bool)(z:List Q)(sz len:Nat)(ps:List (Nat×Nat×bS)):gA T K ⟨d,g,.fc k o z sz len ps⟩ st=jG K (cl st.mem st.tm (.fc k o z sz len ps)) d st:=bw
@[go_sem] theorem aHG (n:Nat)(dS:Bool)(x:bS):gA T K ⟨d,g,.load n dS x⟩ st=jG K (cl st.mem st.tm (.load n dS x)) d st:=bw
@[go_sem] theorem aHH (n:Nat)(x v:bS):gA T K ⟨d,g,.store n x v⟩ st=jG K (cl st.mem st.tm (.store n x v)) d st:=bw
@[go_sem] theorem aHI (op:BinOp)(x y:bS):gA T K ⟨d,g,.bin op x y⟩ st=jG K (cl st.mem st.tm (.bin op x y)) d st:=bw
@[go_sem] theorem aHJ (b:Bool)(n:List Nat)(x y:bS):gA T K ⟨d,g,.eqs b n x y⟩ st=jG K (cl st.mem st.tm (.eqs b n x y)) d st:=bw
@[go_sem] theorem aHK (b:Bool)(x y:bS):gA T K ⟨d,g,.beq b x y⟩ st=jG K (cl st.mem st.tm (.beq b x y)) d st:=bw
@[go_sem] theorem aHL (op:UnOp)(x:bS):gA T K ⟨d,g,.un op x⟩ st=jG K (cl st.mem st.tm (.un op x)) d st:=bw
@[go_sem] theorem aHM (k:IntKind)(x:bS):gA T K ⟨d,g,.conv k x⟩ st=jG K (cl st.mem st.tm (.conv k x)) d st:=bw
@[go_sem] theorem aHN (x:bS):gA T K ⟨d,g,.r9 x⟩ st=jG K (cl st.mem st.tm (.r9 x)) d st:=bw
@[go_sem] theorem aHO (k:Key)(z:List Q)(b:Nat)(x y:bS):gA T K ⟨d,g,.mu k z b x y⟩ st=jG K (cl st.mem st.tm (.mu k z b x y)) d st:=bw
@[go_sem] theorem aHP (o:Nat)(x:bS):gA T K ⟨d,g,.ef o x⟩ st=jG K (cl st.mem st.tm (.ef o x)) d st:=bw
@[go_sem] theorem aHQ (o n:Nat)(dS:Bool)(x:bS):gA T K ⟨d,g,.C8 o n dS x⟩ st=jG K (cl st.mem st.tm (.C8 o n dS x)) d st:=bw
@[go_sem] theorem aHR (s:Nat)(x i:bS):gA T K ⟨d,g,.kE s x i⟩ st=jG K (cl st.mem st.tm (.kE s x i)) d st:=bw
@[go_sem] theorem aHS (n s:Nat)(x i:bS):gA T K ⟨d,g,.pb n s x i⟩ st=jG K (cl st.mem st.tm (.pb n s x i)) d st:=bw
@[go_sem] theorem aHT (x i:bS):gA T K ⟨d,g,.idxs x i⟩ st=jG K (cl st.mem st.tm (.idxs x i)) d st:=bw
@[go_sem] theorem aHU (s:Nat)(x:bS)(a b c:Option bS):gA T K ⟨d,g,.oC s x a b c⟩ st=jG K (cl st.mem st.tm (.oC s x a b c)) d st:=bw
@[go_sem] theorem aHV (n s:Nat)(x:bS)(a b c:Option bS):gA T K ⟨d,g,.th n s x a b c⟩ st=jG K (cl st.mem st.tm (.th n s x a b c)) d st:=bw
@[go_sem] theorem aHW (x:bS)(a b:Option bS):gA T K ⟨d,g,.C9 x a b⟩ st=jG K (cl st.mem st.tm (.C9 x a b)) d st:=bw
@[go_sem] theorem aHX (i:Nat)(x:bS):gA T K ⟨d,g,.ext i x⟩ st=jG K (cl st.mem st.tm (.ext i x)) d st:=bw
@[go_sem] theorem aHY (x:bS):gA T K ⟨d,g,.len x⟩ st=jG K (cl st.mem st.tm (.len x)) d st:=bw
@[go_sem] theorem aHZ (x:bS):gA T K ⟨d,g,.lens x⟩ st=jG K (cl st.mem st.tm (.lens x)) d st:=bw
@[go_sem] theorem aH0 (k:Key)(z:List Q)(b:Nat)(s x:bS):gA T K ⟨d,g,.app k z b s x⟩ st=jG K (cl st.mem st.tm (.app k z b s x)) d st:=bw
@[go_sem] theorem aH1 (z:List Q)(x:bS):gA T K ⟨d,g,.sc z x⟩ st=jG K (cl st.mem st.tm (.sc z x)) d st:=bw
@[go_sem] theorem aH2 (s:Nat)(x y:bS):gA T K ⟨d,g,.sa s x y⟩ st=jG K (cl st.mem st.tm (.sa s x y)) d st:=bw
@[go_sem] theorem aH3 (b:Bool)(x y:bS):gA T K ⟨d,g,.iK b x y⟩ st=jG K (cl st.mem st.tm (.iK b x y)) d st:=bw
@[go_sem] theorem aH4 (f:FuncId)(l:List bS):gA T K ⟨d,g,.pJ f l⟩ st=jG K (cl st.mem st.tm (.pJ f l)) d st:=bw
def wC (K:ba->Prop)(x:Option g8)(d:Option Nat)(st:ba):Prop :=
 match x with
 |some (.same r)=>K ⟨put st.tm d (.I r),st.mem⟩
 |some (.own _ es)=>K ⟨put st.tm d (.I (.X es)),st.mem⟩
 |some (.rel bV)=>∀r mem',bV r mem'->K ⟨put st.tm d r,mem'⟩
 |some (.e6 r k g i c)=>K ⟨put st.tm d (.I r),a1 st.mem k g ((rb st.mem k).set i c)⟩
 |some (.ze r k)=>K ⟨put st.tm d (.I r),a1 st.mem k (bY st.mem k) []⟩
 |none=>False
@[go_sem] theorem aH5 (f:FuncId)(l:List bS):gA T K ⟨d,g,.call f l⟩ st=wC K (T f (l.map (a3 st.tm)) st.mem) d st:=bw
@[go_sem] theorem aH6 (r:Data)(k:Key)(g i:Nat)(c:Q):wC K (some (.e6 r k g i c)) d st=K ⟨put st.tm d (.I r),a1 st.mem k g ((rb st.mem k).set i c)⟩:=bw
@[go_sem] theorem aH7 (r:Data)(k:Key):wC K (some (.ze r k)) d st=K ⟨put st.tm d (.I r),a1 st.mem k (bY st.mem k) []⟩:=bw
@[go_sem] theorem aH8 (r:Data):wC K (some (.same r)) d st=K ⟨put st.tm d (.I r),st.mem⟩:=bw
@[go_sem] theorem aH9 (s:Nat)(es:List (List Data)):wC K (some (.own s es)) d st=K ⟨put st.tm d (.I (.X es)),st.mem⟩:=bw
@[go_sem] theorem apC (bV:Q->Mem->Prop):wC K (some (.rel bV)) d st=∀r mem',bV r mem'->K ⟨put st.tm d r,mem'⟩:=bw
def Tz (T:bb)(K:ba->Prop)(m:Q)(args:List Q)(d:Option Nat)(st:ba):Prop :=
 match m with
 |.fA g eP=>wC K (T g (args++eP) st.mem) d st
 |.I (.fn g ds)=>wC K (T g (args++ds.map .I) st.mem) d st
 |_=>False
@[go_sem] theorem aIa (f:bS)(l:List bS):gA T K ⟨d,g,.jQ f l⟩ st=Tz T K (a3 st.tm f) (l.map (a3 st.tm)) d st:=bw
@[go_sem] theorem aIb (f:FuncId)(eP args:List Q):Tz T K (.fA f eP) args d st=wC K (T f (args++eP) st.mem) d st:=bw
@[go_sem] theorem aIc (f:FuncId)(ds:List Data)(args:List Q):Tz T K (.I (.fn f ds)) args d st=wC K (T f (args++ds.map .I) st.mem) d st:=bw
def TA (K:ba->Prop)(x:Option g8)(k:Key)(sz:Nat)(d:Option Nat)(st:ba):Prop :=
 match x with
 |some (.own ev es)=>if ev=sz then K ⟨put st.tm d (.ref k (bY st.mem k) sz 0 (D es)),a1 st.mem k (bY st.mem k) (es.flatten.map .I)⟩ else False
 |_=>False
@[go_sem] theorem aId (k:Key)(sz:Nat)(f:FuncId)(l:List bS):gA T K ⟨d,g,.oD k sz f l⟩ st=TA K (T f (l.map (a3 st.tm)) st.mem) k sz d st:=bw
@[go_sem] theorem aIe (k:Key)(sz:Nat)(es:List (List Data)):TA K (some (.own sz es)) k sz d st=K ⟨put st.tm d (.ref k (bY st.mem k) sz 0 (D es)),a1 st.mem k (bY st.mem k) (es.flatten.map .I)⟩:=by simp[TA]
def adE (K:ba->Prop)(neg:Bool)(x:Option Bool)(d:Option Nat)(st:ba):Prop :=
 match x with
 |some full=>∀b:Bool,(full=true->b=false)->K ⟨put st.tm d (.I (.bool (neg != b))),st.mem⟩
 |none=>False
@[go_sem] theorem aIf (neg:Bool)(x:bS):gA T K ⟨d,g,.q8 neg x⟩ st=adE K neg (Da (a3 st.tm x)) d st:=bw
@[go_sem] theorem aIg (neg full:Bool):adE K neg (some full) d st=∀b:Bool,(full=true->b=false)->K ⟨put st.tm d (.I (.bool (neg != b))),st.mem⟩:=bw
end
section
variable {tm:Nat->Q} {mem:Mem}
@[go_sem] theorem aIh (s:Nat):a3 tm (.t s)=tm s:=bw
@[go_sem] theorem aIi (m:Q):a3 tm (.c m)=m:=bw
@[go_sem] theorem aIj (s:Nat)(m:Q):put tm (some s) m=e6 tm s m:=bw
@[go_sem] theorem aIk (m:Q):put tm none m=tm:=bw
@[go_sem] theorem aIl (s:Nat)(m:Q)(t:Nat):e6 tm s m t=if t=s then m else tm t:=bw
@[go_sem] theorem Bh (k:Key)(g:Nat)(cs:List Q)(j:Key):a1 mem k g cs j=if j=k then some (g,cs) else mem j:=bw
@[go_sem] theorem aIm:iq mem none=mem:=bw
@[go_sem] theorem aIn (k:Key)(g:Nat)(cs:List Q):iq mem (some (k,g,cs))=a1 mem k g cs:=bw
def gE:Option (Nat×List Q)->Nat
 |none=>0
 |some (g,_)=>g+1
@[go_sem] theorem aIo (k:Key):bY mem k=gE (mem k):=by unfold bY gE;rfl
@[go_sem] theorem aIp:gE none=0:=bw
@[go_sem] theorem aIq (g:Nat)(cs:List Q):gE (some (g,cs))=g+1:=bw
@[go_sem] theorem aIr (k:Key):emp k=none:=bw
@[go_sem] theorem aIs:pc tm none=some true:=bw
def N6 (m:Q)(b:Bool):Option Bool :=
 match m with
 |.I (.bool t)=>some (t==b)
 |.no=>some false
 |_=>none
@[go_sem] theorem aIt (s:Nat)(b:Bool):pc tm (some (s,b))=N6 (tm s) b:=bw
@[go_sem] theorem aIu (b:Bool):N6 .no b=some false:=bw
variable (op:kp)
@[go_sem] theorem aIv (m:Q):jl (some m)=some (m,none):=bw
@[go_sem] theorem aIw (x:bS):cl mem tm (.cp x)=some (a3 tm x,none):=bw
@[go_sem] theorem aIx (c a b:bS):cl mem tm (.pick c a b)=jl (Ft (a3 tm c) (a3 tm a) (a3 tm b)):=bw
@[go_sem] theorem aIy (a b:Q):Ft (.I (.bool true)) a b=some a:=bw
@[go_sem] theorem aIz (a b:Q):Ft (.I (.bool false)) a b=some b:=bw
@[go_sem] theorem aIA (k:Key)(z:List Q):cl mem tm (.alloc k z)=some (.ptr k (bY mem k) 0,some (k,bY mem k,z)):=bw
@[go_sem] theorem aIB (k:Key)(x:bS):cl mem tm (.box k x)=if (a3 tm x).known=true then some (.ptr k (bY mem k) 0,some (k,bY mem k,(a3 tm x).cells)) else none:=bw
@[go_sem] theorem aIC (z:List Q)(ps:List (Nat×Nat×bS)):cl mem tm (.build z ps)=jl ((kF (a3 tm) z ps).map .agg):=bw
@[go_sem] theorem aID (k:Key)(z:List Q)(sz len:Nat)(ps:List (Nat×Nat×bS)):cl mem tm (.fc k false z sz len ps)=jl (Jm z sz len (kF (a3 tm) z ps)):=bw
@[go_sem] theorem aIE (k:Key)(z:List Q)(sz len:Nat)(ps:List (Nat×Nat×bS)):cl mem tm (.fc k true z sz len ps)=Fu k (bY mem k) z sz len (kF (a3 tm) z ps):=bw
@[go_sem] theorem aIF (n:Nat)(dS:Bool)(x:bS):cl mem tm (.load n dS x)=jl (qj mem n dS (a3 tm x)):=bw
@[go_sem] theorem aIG (n:Nat)(x v:bS):cl mem tm (.store n x v)=xO mem n (a3 tm x) (a3 tm v).cells:=bw
@[go_sem] theorem aIH (b:BinOp)(x y:bS):cl mem tm (.bin b x y)=jl (Jj b (a3 tm x) (a3 tm y)):=bw
@[go_sem] theorem aII (neg:Bool)(x y:bS):cl mem tm (.beq neg x y)=jl (Jk neg (a3 tm x) (a3 tm y)):=bw
@[go_sem] theorem aIJ (neg:Bool)(n:List Nat)(x y:bS):cl mem tm (.eqs neg n x y)=jl (Jo neg n (a3 tm x) (a3 tm y)):=bw
@[go_sem] theorem aIK (u:UnOp)(x:bS):cl mem tm (.un u x)=jl (Jl u (a3 tm x)):=bw
@[go_sem] theorem aIL (k:IntKind)(x:bS):cl mem tm (.conv k x)=jl (Jp k (a3 tm x)):=bw
@[go_sem] theorem aIM (x:bS):cl mem tm (.r9 x)=jl (Jq (a3 tm x)):=bw
@[go_sem] theorem aIN (k:Key)(z:List Q)(b:Nat)(x y:bS):cl mem tm (.mu k z b x y)=JA (idx (a3 tm x)) (idx (a3 tm y)) (Fv k (bY mem k) z b):=bw
@[go_sem] theorem aIO (o:Nat)(x:bS):cl mem tm (.ef o x)=jl (Jr o (a3 tm x)):=bw
@[go_sem] theorem aIP (o n:Nat)(dS:Bool)(x:bS):cl mem tm (.C8 o n dS x)=jl (Js o n dS (a3 tm x)):=bw
@[go_sem] theorem aIQ (s:Nat)(x i:bS):cl mem tm (.kE s x i)=jl (h9 (idx (a3 tm i)) λn=>zd s n (a3 tm x)):=bw
@[go_sem] theorem aIR (n s:Nat)(x i:bS):cl mem tm (.pb n s x i)=jl (h9 (idx (a3 tm i)) λm=>Jt n s m (a3 tm x)):=bw
@[go_sem] theorem aIS (x i:bS):cl mem tm (.idxs x i)=jl (h9 (idx (a3 tm i)) λn=>Ju n (a3 tm x)):=bw
@[go_sem] theorem aIT (s:Nat)(x:bS)(cx J:Option bS):cl mem tm (.oC s x cx J none)=jl (h9 (jR 0 (cx.map (a3 tm))) λl=>h9 (qi (a3 tm x)) λlen=>h9 (jR len (J.map (a3 tm))) λh=>Jv s l h (a3 tm x)):=bw
@[go_sem] theorem aIU (s:Nat)(x h m:bS)(cx:Option bS):cl mem tm (.oC s x cx (some h) (some m)) =
 jl (h9 (jR 0 (cx.map (a3 tm))) λl=>h9 (idx (a3 tm h)) λh=>h9 (idx (a3 tm m)) λm=>Jw s l h m (a3 tm x)):=bw
@[go_sem] theorem aIV (n s:Nat)(x:bS)(cx J:Option bS):cl mem tm (.th n s x cx J none)=jl (h9 (jR 0 (cx.map (a3 tm))) λl=>h9 (jR n (J.map (a3 tm))) λh=>A6 mem n s l h (a3 tm x)):=bw
@[go_sem] theorem aIW (x:bS)(cx J:Option bS):cl mem tm (.C9 x cx J)=jl (h9 (jR 0 (cx.map (a3 tm))) λl=>h9 (zc (a3 tm x)) λlen=>h9 (jR len (J.map (a3 tm))) λh=>Jx l h (a3 tm x)):=bw
@[go_sem] theorem aIX (i:Nat)(x:bS):cl mem tm (.ext i x)=jl (Jy i (a3 tm x)):=bw
@[go_sem] theorem aIY (x:bS):cl mem tm (.len x)=jl (h9 (qi (a3 tm x)) λn=>some (.I (.int .i64 n))):=bw
@[go_sem] theorem aIZ (x:bS):cl mem tm (.lens x)=jl (h9 (zc (a3 tm x)) λn=>some (.I (.int .i64 n))):=bw
@[go_sem] theorem aI0 (k:Key)(z:List Q)(b:Nat)(s x:bS):cl mem tm (.app k z b s x)=ra mem k z b (a3 tm s) (qk mem (D z) (a3 tm x)):=bw
@[go_sem] theorem aI1 (z:List Q)(x:bS):cl mem tm (.sc z x)=xP mem z (a3 tm x):=bw
@[go_sem] theorem aI2 (s:Nat)(x y:bS):cl mem tm (.sa s x y)=wq mem s (a3 tm x) (qk mem s (a3 tm y)):=bw
@[go_sem] theorem aI3 (b:Bool)(x y:bS):cl mem tm (.iK b x y)=jl (Jz b (a3 tm x) (a3 tm y)):=bw
@[go_sem] theorem aI4 (f:FuncId)(l:List bS):cl mem tm (.pJ f l)=some (.fA f (l.map (a3 tm)),none):=bw
@[go_sem] theorem aI5 (n:Nat)(f:Nat->Option Q):h9 (some n) f=f n:=bw
@[go_sem] theorem aI6 (n m:Nat)(f:Nat->Nat->Out):JA (some n) (some m) f=f n m:=bw
def N7 (n:Nat)(dS:Bool)(g off:Nat):Option (Nat×List Q)->Option Q
 |some (c0,cs)=>if c0=g then (cut cs off n).bind (q9 dS) else none
 |none=>none
@[go_sem] theorem aI7 (n:Nat)(dS:Bool)(k:Key)(g off:Nat):qj mem n dS (.ptr k g off)=N7 n dS g off (mem k):=by unfold qj N7;rfl
@[go_sem] theorem aI8 (n:Nat)(dS:Bool)(g off:Nat)(cs:List Q):N7 n dS g off (some (g,cs))=(cut cs off n).bind (q9 dS):=by simp[N7]
@[go_sem] theorem aI9 (n:Nat)(dS:Bool)(ds:List Data):qj mem n dS (.I (.ptr ds))=(cut (ds.map .I) 0 n).bind (q9 dS):=bw
@[go_sem] theorem aJa (n:Nat)(k:Key)(g off:Nat)(v:List Q):xO mem n (.ptr k g off) v=JB n k g off v (mem k):=bw
@[go_sem] theorem aJb (cs:List Q):q9 true cs=some (.agg cs):=bw
@[go_sem] theorem aJc (m:Q):q9 false [m]=some m:=bw
@[go_sem] theorem aJd (cs:List Q):(Q.agg cs).cells=cs:=bw
@[go_sem] theorem aJe (cs:List Data):(Q.I (.agg cs)).cells=cs.map .I:=bw
@[go_sem] theorem aJf (k:IntKind)(n:Int):(Q.I (.int k n)).cells=[.I (.int k n)]:=bw
@[go_sem] theorem aJg (b:Bool):(Q.I (.bool b)).cells=[.I (.bool b)]:=bw
@[go_sem] theorem aJh (l:List UInt8):(Q.I (.str l)).cells=[.I (.str l)]:=bw
@[go_sem] theorem aJi (l:List (List Data)):(Q.I (.X l)).cells=[.I (.X l)]:=bw
@[go_sem] theorem aJj (l:List Data):(Q.I (.ptr l)).cells=[.I (.ptr l)]:=bw
@[go_sem] theorem aJk (f:FuncId)(l:List Data):(Q.I (.fn f l)).cells=[.I (.fn f l)]:=bw
@[go_sem] theorem aJl:Q.nil.cells=[.nil]:=bw
@[go_sem] theorem aJm (k:Key)(g s o l:Nat):(Q.ref k g s o l).cells=[.ref k g s o l]:=bw
@[go_sem] theorem aJn (k:Key)(g o:Nat):(Q.ptr k g o).cells=[.ptr k g o]:=bw
@[go_sem] theorem aJo (f:FuncId)(l:List Q):(Q.fA f l).cells=[.fA f l]:=bw
@[go_sem] theorem aJp (k:IntKind)(n:Nat):idx (.I (.int k (n:Int)))=some n:=by simp[idx]
@[go_sem] theorem aJq (k:IntKind):idx (.I (.int k 0))=some 0:=bw
@[go_sem low] theorem aJr (k:IntKind)(n:Int):idx (.I (.int k n))=if 0<=n then some n.toNat else none:=bw
end
attribute [go_sem] Jn Jk Jj Jl Jp Jq Jr Js zd Jt Ju Jv Jw A6 S9 Jx Jy Jz jR qi zc JB wq A7 xP NP Fv Fu Jm Jo A5 NO kF kY cut chunk
 Fs NL NM NN Da ql u3 Q.one Q.known qk nT dE Fw JC re rb Fx JE Tb JF Tc JD Ta NQ wu keyOf jS Fy rf u5 hG kr Fz pK
end Go.Mini
namespace Go.Mini
open Go
variable {P:Program} {A:Nat->Prop} {w:World} {B:e5} {mem:Mem}
def Bi (w aQ:World)(aX:Nat->Prop)(sz:Nat)(es:List (List Data))(v:Value):Prop :=
 (∀e∈es,D e=sz)/\∃a cap,v=.slice a (D es) cap/\D es<=cap/\cap<=maxLen /\
  (cap=0\/∃b vs T,a=some ⟨b,0,none⟩/\w.heap.size<=b/\aQ.heap[b]?=some (.cells vs T (0,0))/\cap*sz<=vs.size /\
   ∀(i:Nat) (d:Data),es.flatten[i]?=some d->∃u,vs[i]?=some u/\Den aQ (λft=>aX ft\/ft=b) d u)
def TB (P:Program)(f:FuncId)(vs:List Value)(A:Nat->Prop)(w:World)(B:e5)(mem:Mem):g8->Prop
 |.same r=>Calls P f vs.toArray w λe aQ=>∃v,e=.returned v/\Fr (λ_=>False) w aQ/\Den aQ (cb A B) r v
 |.own sz es=>Calls P f vs.toArray w λe aQ=>∃v,e=.returned v/\Fr (λ_=>False) w aQ/\Bi w aQ (cb A B) sz es v
 |.rel bV=>Calls P f vs.toArray w λe aQ=>∃v r mem' bs,e=.returned v/\eH A w B aQ bs mem'/\bq aQ (cb A bs) bs r v/\bV r mem'
 |.ze r k=>Calls P f vs.toArray w λe aQ=>∃v bs,e=.returned v/\eH A w B aQ bs (a1 mem k (bY mem k) [])/\bq aQ (cb A bs) bs (.I r) v
 |.e6 r k g i c=>Calls P f vs.toArray w λe aQ=>∃v bs,e=.returned v/\eH A w B aQ bs (a1 mem k g ((rb mem k).set i c))/\bq aQ (cb A bs) bs (.I r) v
def Real (P : Program)(f : FuncId): Prop := ∃ fn c, P.funcs[f]? = some fn /\ fn.body = some c /\ (fn.name == "runtime.NumGoroutine") = false
def qx (P:Program)(T:bb):Prop:=∀f args mem pf,T f args mem=some pf->Real P f /\
 ∀A w B vs,fr A w B mem->dq w (cb A B) B args vs->TB P f vs A w B mem pf
theorem N8 {f:FuncId}(h:Real P f)(args:Array Value):(callFunc f args).run P w=.ok (.enter f args) w:=by
 obtain⟨fn,c,aK,ae,aH⟩:=h;have E : fn.name ≠ "runtime.NumGoroutine" := by simpa using aH
 simp[callFunc,aK,E,ae]
theorem Den.less {w:World}{aX mq:Nat->Prop}(h:∀b,mq b->aX b){d:Data}{v:Value}(Y:Den w aX d v):Den w mq d v :=
 Y.q7 (bX _) λb _ ae=>⟨rfl,λO=>ae (h b O)⟩
theorem Bi.den {w aQ:World}{aX:Nat->Prop}{sz:Nat}{es:List (List Data)}{v:Value}(az:∀b,aX b->b<w.heap.size)(h:Bi w aQ aX sz es v):Den aQ aX (.X es) v:=by
 obtain⟨he,a,cap,rfl,E,H,af⟩:=h;rcases af with rfl|⟨b,vs,T,rfl,aP,bt,bU,bM⟩
 ·have:es=[]:=tt (by omega);subst this;exact .lV
 ·have JX:b<aQ.heap.size:=(Array.getElem?_eq_some_iff.1 bt).1;refine .X (sz:=sz) (λi=>vs.getD i undef) E (by omega) JX (λbL=>by have:=az b bL;omega) he (λi J=>?_) λi d Y=>?_
  ·have az:i<D es.flatten:=by rw[NG he];exact J
   obtain⟨u,hu,_⟩:=bM i _ (bu az);rw[cell_of_row aQ b _ vs T (0,0) bt,kH,Array.getD_eq_getD_getElem?,hu]
   rfl
  ·obtain⟨u,hu,Y⟩:=bM i d Y;rw[Array.getD_eq_getD_getElem?,hu];exact Y.less λb h => .inl h
theorem adF {aQ:World}{sz:Nat}{es:List (List Data)}{v:Value}(k:Key)(b0:fr A w B mem)(f:Fr (λ_=>False) w aQ)(h:Bi w aQ (cb A B) sz es v):
  ∃bs,eH A w B aQ bs (a1 mem k (bY mem k) (es.flatten.map .I))/\bq aQ (cb A bs) bs (.ref k (bY mem k) sz 0 (D es)) v:=by
 obtain⟨he,a,cap,rfl,E,H,af⟩:=h;have still:=eH.still b0 f;rcases af with rfl|⟨b,vs,T,rfl,aP,bt,bU,bM⟩
 ·have:es=[]:=tt (by omega);subst this;exact⟨_,still.trans (eH.xV still.dT k),.ref (hx _ _ _) (bX _) ⟨_,0,rfl,E,H,.inl rfl⟩⟩
 ·have JX:b<aQ.heap.size:=(Array.getElem?_eq_some_iff.1 bt).1
  have fl:∀ft,(⟨bY mem k,some b,vs.size⟩:mr).dz=some ft->w.heap.size<=ft\/∃e,B k=some e/\e.dz=some ft:=λft kG=>by
   cases kG;exact .inl aP
  have lD:=NG he;have hmul:(D es)*sz<=cap*sz:=vd _ E;have hold:∀ft,ft<w.heap.size->(∀e,B k=some e->e.dz≠some ft)->aQ.heap[ft]?=w.heap[ft]?:=λft kG _=>f.block ft kG id;have a9:∀e,B k=some e->(⟨bY mem k,some b,vs.size⟩:mr)=e\/e.g<(⟨bY mem k,some b,vs.size⟩:mr).g:=λe he => .inr (Dc b0 k e he);refine⟨gB B k ⟨bY mem k,some b,vs.size⟩,⟨?_,Trans.change f.size hold a9 fl,⟨f.os,f.tape,f.output,f.size,λft kG _=>f.block ft kG id⟩,Tf fl⟩,?_⟩
  ·refine b0.acX (e':=⟨bY mem k,some b,vs.size⟩) f.size hold a9 fl (λh=>by cases h) λft kG=>?_
   cases kG;refine⟨vs,T,bt,rfl,by rw[ai,lD];omega,λi m hm=>?_⟩
   rw[bh,dY] at hm;obtain⟨d,Y,rfl⟩:=hm;obtain⟨u,hu,tu⟩:=bM i d Y;refine⟨u,hu,.I (tu.less λft kG=>?_)⟩;rcases kG with ⟨j,e,ah,O⟩|aM
   ·by_cases dX:j=k
    ·subst dX;rw[hx] at ah
     cases ah
     cases O;exact .inr rfl
    ·rw[hh B _ dX] at ah;exact .inl (.inl ⟨j,e,ah,O⟩)
   ·exact .inl (.inr aM)
  ·exact .ref (hx _ _ _) (bX _) ⟨_,cap,rfl,E,H,.inr ⟨b,rfl,λ_=>⟨rfl,by simpa using bU⟩⟩⟩
end Go.Mini
namespace Go.Mini
open Go
variable {P:Program} {T:bb} {A:Nat->Prop} {ew w:World} {hz B:e5} {mem:Mem} {n:Nat}
structure hO (n:Nat) (A:Nat->Prop) (ew:World) (hz:e5) (a:Act) (st:ba) (w:World) (B:e5):Prop where
 ok:eH A ew hz w B st.mem
 tm:∀s,bq w (cb A B) B (st.tm s) (a.eval (.tmp s))
 sz:a.tmps.size=n
 JY:a.defers=[]
theorem hO.tv {a:Act}{st:ba}(h:hO n A ew hz a st w B)(x:Operand)(y:bS)(O:dH x=some y):bq w (cb A B) B (a3 st.tm y) (a.eval x):=by
 cases x<;>simp only[dH,cm,dY,reduceCtorEq] at O
 ·subst O;exact h.tm _
 ·obtain⟨m,hm,rfl⟩:=O;exact aoq hm
 ·subst O;exact .fA (vs:=[]) rfl λi d v E=>by simp at E
theorem apD {a:Act}{s:Nat}{v:Value}(h:s<a.tmps.size):(a.put (some s) v).eval (.tmp s)=v:=by
 simp[Act.eval,Act.put,h]
theorem hO.put {a:Act}{st:ba}{aQ:World}{bs:e5}{mem':Mem}{dst:Option Nat}{r:Q}{v:Value}(h:hO n A ew hz a st w B)(U:eH A w B aQ bs mem')(aa:bq aQ (cb A bs) bs r v)
  (Y:dst.all (λd=>decide (d<n))=true):hO n A ew hz (a.put dst v) ⟨Mini.put st.tm dst r,mem'⟩ aQ bs:=by
 refine⟨h.ok.trans U,λs=>?_,?_,?_⟩
 ·cases dst with
  |none=>exact (h.tm s).q7 U.mZ
  |some d =>
   simp only[Option.all_some,decide_eq_true_eq] at Y
   by_cases JZ:s=d
   ·subst JZ;rw[apD (by rw[h.sz];exact Y)];simp only[Mini.put,e6,if_true];exact aa
   ·rw[Act.eval_put (λx2 E H=>by cases E;cases H;exact JZ rfl)];simp only[Mini.put,e6,ag JZ];exact (h.tm s).q7 U.mZ
 ·cases dst<;>simp[Act.put,h.sz]
 ·cases dst<;>simp[Act.put,h.JY]
theorem TC {a:Act}{st:ba}{ops:Array Oper}{o:Oper}{g:Option (Nat×Bool)}{b:Bool}(h:hO n A ew hz a st w B)(a9:JK ops o.guard=some g)(ae:pc st.tm g=some b):
  Region.wanted o (yielded ops a.tmps)=b:=by
 unfold Region.wanted
 cases wy:o.guard with
 |none =>
  rw[wy] at a9;simp only[JK,cm] at a9;subst a9;simp only[pc,cm] at ae;exact ae
 |some p =>
  obtain⟨j,c⟩:=p;rw[wy] at a9;simp only[JK] at a9
  split at a9
  ·rename_i s U;simp only[cm] at a9;subst a9;have ak:=h.tm s
   have ar:yielded ops a.tmps j=match a.eval (.tmp s) with|.bool b=>some b|_=>none:=by
    unfold yielded;rw[U];simp only[Option.bind_some,Act.eval,Array.getD_eq_getD_getElem?]
    cases a.tmps[s]? with
    |none=>rfl
    |some v=>cases v<;>rfl
   simp only[pc] at ae;simp only[ar]
   split at ae
   ·rename_i t bA;rw[bA] at ak
    cases ak with
    |I ak =>
     generalize a.eval (.tmp s)=u at *
     cases ak;simp only[cm] at ae;subst ae
     cases t<;>cases c<;>simp
   ·rename_i bA;rw[bA] at ak;generalize a.eval (.tmp s)=u at *
    cases ak;simp only[cm] at ae;subst ae
    rfl
   ·cases ae
  ·cases a9
theorem adG {kb:Nat}{own:List Nat}{dst:Option Nat}{ty:TypeId}{op:Op}{f:FuncId}{args:List bS}(h:jT P kb own dst ty op=some (.call f args)):
  ∃c:Call,op=.call c/\c.callee=.value (.func f)/\c.args.toList.mapM dH=some args:=by
 cases op<;>simp only[jT,zg,wx] at h
 case call c =>
  refine⟨c,rfl,?_⟩;unfold xR at h
  (repeat' split at h)<;>simp_all [er,dY]
 all_goals ((repeat' split at h)<;>simp_all [er,dY])
theorem apE {kb:Nat}{own:List Nat}{dst:Option Nat}{ty:TypeId}{op:Op}{f:FuncId}{cx:Nat}{args:List bS}(h:jT P kb own dst ty op=some (.mv cx f args)):
  ∃c:Call,op=.call c/\c.callee=.value (.func f)/\c.args.toList.mapM dH=some args:=by
 cases op<;>simp only[jT,zg,wx] at h
 case call c =>
  refine⟨c,rfl,?_⟩;unfold xR at h
  (repeat' split at h)<;>simp_all [er,dY]
  all_goals
   obtain⟨_,E,_,rfl,rfl⟩:=h;exact⟨rfl,E⟩
 all_goals ((repeat' split at h)<;>simp_all [er,dY])
theorem apF {kb:Nat}{own:List Nat}{dst:Option Nat}{ty:TypeId}{op:Op}{f:FuncId}{cx:Nat}{args:List bS}(h:jT P kb own dst ty op=some (.ti cx f args)):
  ∃c:Call,op=.call c/\c.callee=.value (.func f)/\c.args.toList.mapM dH=some args:=by
 cases op<;>simp only[jT,zg,wx] at h
 case call c =>
  refine⟨c,rfl,?_⟩;unfold xR at h
  (repeat' split at h)<;>simp_all [er,dY]
  all_goals
   obtain⟨_,E,_,rfl,rfl⟩:=h;exact⟨rfl,E⟩
 all_goals ((repeat' split at h)<;>simp_all [er,dY])
theorem apG {kb:Nat}{own:List Nat}{dst:Option Nat}{ty:TypeId}{op:Op}{f:FuncId}{cx:Nat}{args:List bS}(h:jT P kb own dst ty op=some (.sb cx f args)):
  ∃c:Call,op=.call c/\c.callee=.value (.func f)/\c.args.toList.mapM dH=some args:=by
 cases op<;>simp only[jT,zg,wx] at h
 case call c =>
  refine⟨c,rfl,?_⟩;unfold xR at h
  (repeat' split at h)<;>simp_all [er,dY]
  all_goals
   obtain⟨_,E,_,rfl,rfl⟩:=h;exact⟨rfl,E⟩
 all_goals ((repeat' split at h)<;>simp_all [er,dY])
theorem adH {kb:Nat}{own:List Nat}{dst:Option Nat}{ty:TypeId}{op:Op}{f:FuncId}{k:Key}{sz:Nat}{args:List bS}(h:jT P kb own dst ty op=some (.oD k sz f args)):
  ∃c:Call,op=.call c/\c.callee=.value (.func f)/\c.args.toList.mapM dH=some args:=by
 cases op<;>simp only[jT,zg,wx] at h
 case call c =>
  refine⟨c,rfl,?_⟩;unfold xR at h
  (repeat' split at h)<;>simp_all [er,dY]
  obtain⟨_,_,_,_,_,E,_,_,rfl,rfl⟩:=h;exact⟨rfl,E⟩
 all_goals ((repeat' split at h)<;>simp_all [er,dY])
theorem apH {kb:Nat}{own:List Nat}{dst:Option Nat}{ty:TypeId}{op:Op}{f:bS}{args:List bS}(h:jT P kb own dst ty op=some (.jQ f args)):
  ∃(c:Call) (x:Operand),op=.call c/\c.callee=.value x/\dH x=some f/\c.args.toList.mapM dH=some args:=by
 cases op<;>simp only[jT,zg,wx] at h
 case call c =>
  refine⟨c,?_⟩;unfold xR at h
  (repeat' split at h)<;>simp_all [er,dY]
 all_goals ((repeat' split at h)<;>simp_all [er,dY])
theorem apI {kb:Nat}{own:List Nat}{dst:Option Nat}{ty:TypeId}{op:Op}{neg:Bool}{x:bS}(h:jT P kb own dst ty op=some (.q8 neg x)):
  ∃(t e:TypeId) (y y':Operand) (z:TypeId),op=.binOp (if neg then .neq else .eql) t y y' z/\Te y'=true/\P.underlying t=some (.slice e)/\dH y=some x:=by
 cases op<;>simp only[jT,zg,wx] at h
 case call c =>
  unfold xR at h
  (repeat' split at h)<;>simp_all [er,dY]
 case binOp bop t y y' z =>
  (repeat' split at h)<;>simp_all [er,dY]
  all_goals
   obtain⟨E,rfl⟩:=h;exact⟨_,_,_,_,⟨rfl,rfl,rfl⟩,by assumption,by assumption,E⟩
 all_goals ((repeat' split at h)<;>simp_all [er,dY])
end Go.Mini
namespace Go.Mini
open Go
variable {P:Program} {T:bb} {A:Nat->Prop} {ew w:World} {hz B:e5} {mem:Mem} {n:Nat}
theorem apJ {t e:TypeId}{y y':Operand}{m:Q}{u v:Value}{aX:Nat->Prop}{full:Bool}(neg:Bool)(bA:P.underlying t=some (.slice e))(hm:bq w aX B m u)(aK:Da m=some full)(ak:v=.slice none 0 0):
  ∃b:Bool,(full=true->b=false)/\((do eqGuard (if neg then .neq else .eql) t y y' u v;binOp (if neg then .neq else .eql) t u v:Sem Value)).run P w=.ok (.bool (neg != b)) w:=by
 subst ak
 have shape:∃a len cap,u=.slice a len cap/\(full=true->a.isNone=false):=by
  cases m<;>simp only[Da,reduceCtorEq] at aK
  case I d =>
   cases d<;>simp only[Da,cm,reduceCtorEq] at aK
   cases hm with
   |I Y =>
    cases Y with
    |lV=>exact⟨_,_,_,rfl,λh=>by cases aK;cases h⟩
    |X=>exact⟨_,_,_,rfl,λ_=>rfl⟩
  case nil =>
   cases hm with
   |nil=>exact⟨_,_,_,rfl,λh=>by cases aK;cases h⟩
  case ref k g sz off len =>
   cases hm with
   |ref he a9 aa =>
    obtain⟨a,cap,rfl,E,H,af⟩:=aa;refine⟨_,_,_,rfl,λh=>?_⟩;simp only[cm] at aK;subst aK;simp only[decide_eq_true_eq] at h;rcases af with af|⟨b,rfl,_⟩
    ·omega
    ·rfl
 obtain⟨a,len,cap,rfl,ae⟩:=shape;refine⟨a.isNone,ae,?_⟩
 have he:∀d,(Op.equalIn (d+1) t (.slice a len cap) (.slice none 0 0)).run P w=.ok a.isNone w:=λd=>by
  unfold Op.equalIn;simp only[Sem.run_bind,run_underlying bA,Result.andThen_ok]
  cases a<;>rfl
 have heq:(Op.equal t (.slice a len cap) (.slice none 0 0)).run P w=.ok a.isNone w:=he 9999;rw[NT (by simp) (by simp)]
 cases neg
 ·simp only[k0,if_false,Sem.run_bind,Sem.run_pure,Result.andThen_ok];show (do pure (Value.bool (<-Op.equal t (.slice a len cap) (.slice none 0 0))):Sem Value).run P w=_
  simp[heq]
 ·simp only[if_true,Sem.run_bind,Sem.run_pure,Result.andThen_ok];show (do pure (Value.bool (!(<-Op.equal t (.slice a len cap) (.slice none 0 0)))):Sem Value).run P w=_
  simp[heq]
structure TD (P:Program) (n kb:Nat) (own:List Nat) (ops:Array Oper) (o:Oper) (i:c6):Prop where
 dst:i.dst=o.dst
 guard:JK ops o.guard=some i.g
 op:i.op=(jT P kb own o.dst o.type o.op).getD .bad
 lt:o.dst.all (λd=>decide (d<n))=true
theorem adI {kb:Nat}{own:List Nat}{ops:Array Oper}{o:Oper}{i:c6}(h:A8 P n kb own ops o=some i):TD P n kb own ops o i:=by
 unfold A8 at h
 split at h
 ·rename_i g a9
  split at h
  ·rename_i az
   cases h;exact⟨rfl,a9,rfl,az⟩
  ·cases h
 ·cases h
theorem apK {K:ba->Prop}{i:c6}{st:ba}(h:gA T K i st):
  (∃m e,cl st.mem st.tm i.op=some (m,e)/\K ⟨put st.tm i.dst m,iq st.mem e⟩) \/
  (∃f args,i.op=.call f args/\u4 T K st i.dst f (args.map (a3 st.tm))) \/
  (∃k sz f args es,i.op=.oD k sz f args/\T f (args.map (a3 st.tm)) st.mem=some (.own sz es)/\K ⟨put st.tm i.dst (.ref k (bY st.mem k) sz 0 (D es)),a1 st.mem k (bY st.mem k) (es.flatten.map .I)⟩) \/
  (∃f args,i.op=.jQ f args/\((∃g eP,a3 st.tm f=.fA g eP/\u4 T K st i.dst g (args.map (a3 st.tm)++eP))\/(∃g ds,a3 st.tm f=.I (.fn g ds)/\u4 T K st i.dst g (args.map (a3 st.tm)++ds.map .I)))) \/
  (∃neg x full,i.op=.q8 neg x/\Da (a3 st.tm x)=some full/\∀b:Bool,(full=true->b=false)->K ⟨put st.tm i.dst (.I (.bool (neg != b))),st.mem⟩):=by
 obtain⟨dst,g,op⟩:=i;unfold gA at h
 split at h
 ·rename_i f args m0;exact .inr (.inl ⟨f,args,m0,h⟩)
 ·rename_i k sz f args m0
  split at h
  ·rename_i ev es he
   split at h
   ·rename_i U;subst U;exact .inr (.inr (.inl ⟨k,_,f,args,es,m0,he,h⟩))
   ·cases h
  ·cases h
 ·rename_i f args m0;refine .inr (.inr (.inr (.inl ⟨f,args,m0,?_⟩)))
  split at h
  ·rename_i g eP aK;exact .inl ⟨g,eP,aK,h⟩
  ·rename_i g ds aK;exact .inr ⟨g,ds,aK,h⟩
  ·cases h
 ·rename_i neg x m0
  split at h
  ·rename_i full aK;exact .inr (.inr (.inr (.inr ⟨neg,x,full,m0,aK,h⟩)))
  ·cases h
 ·split at h
  ·rename_i m e he;exact .inl ⟨m,e,he,h⟩
  ·cases h
theorem getD_some {α:Type}{x:Option α}{b c:α}(h:c=x.getD b)(ae:c≠b):x=some c:=by
 cases x with
 |none=>exact absurd h ae
 |some y=>simp at h;rw[h]
theorem adJ (cI:qx P T){K:ba->Prop}{a:Act}{st:ba}{o:Oper}{aL:Exit->Act->World->Prop}{f:FuncId}{args:List Q}{vs:List Value}(h:hO n A ew hz a st w B)(az:o.dst.all (λd=>decide (d<n))=true)
  (ak:dq w (cb A B) B args vs) (M:u4 T K st o.dst f args) (m2:Real P f->(execOp a.eval o).run P w=.ok (.enter f vs.toArray) w) :
  o.wp P a w (λkI aQ=>∃dO bs,K dO/\hO n A ew hz kI dO aQ bs) aL:=by
 unfold u4 at M;unfold Oper.wp
 cases ix:T f args st.mem with
 |none=>rw[ix] at M;exact M.elim
 |some pf =>
  obtain⟨mD,jH⟩:=cI f args st.mem pf ix;have G:=jH A w B vs h.ok.dT ak;rw[ix] at M;rw[m2 mD]
  cases pf with
  |same r =>
   refine Calls.mono G λe aQ he=>?_;obtain⟨v,rfl,bW,Y⟩:=he;exact⟨_,B,M,h.put (.still h.ok.dT bW) (.I Y) az⟩
  |own sz es =>
   refine Calls.mono G λe aQ he=>?_;obtain⟨v,rfl,bW,Y⟩:=he;refine⟨_,B,M,h.put (.still h.ok.dT bW) (.I (Y.den λb ae=>?_)) az⟩;rcases ae with ae|ae
   ·exact h.ok.dT.xN ae
   ·exact h.ok.dT.lt b ae
  |ze r k =>
   refine Calls.mono G λe aQ he=>?_;obtain⟨v,bs,rfl,dy,lA⟩:=he;exact⟨_,bs,M,h.put dy lA az⟩
  |rel bV =>
   refine Calls.mono G λe aQ he=>?_;obtain⟨v,r,mem',bs,rfl,U,Y,gf⟩:=he;exact⟨_,bs,M r mem' gf,h.put U Y az⟩
  |e6 r k g i c =>
   refine Calls.mono G λe aQ he=>?_;obtain⟨v,bs,rfl,U,Y⟩:=he;exact⟨_,bs,M,h.put U Y az⟩
theorem apL {aX:Nat->Prop}{m:Q}{u:Value}{g:FuncId}{eP:List Q}(hm:bq w aX B m u)(h:m=.fA g eP\/∃ds,m=.I (.fn g ds)/\eP=ds.map .I):
  ∃cs:List Value,u=.func (.func g) #[] cs.toArray/\dq w aX B eP cs:=by
 rcases h with rfl|⟨ds,rfl,rfl⟩
 ·cases hm with
  |fA av Y=>exact⟨_,rfl,av,Y⟩
 ·cases hm with
  |I Y =>
   cases Y with
   |fn av Y=>exact⟨_,rfl,dq.I av Y⟩
theorem apM (cI:qx P T){K:ba->Prop}{kb:Nat}{own:List Nat}{ops:Array Oper}{a:Act}{st:ba}{o:Oper}{i:c6}{aL:Exit->Act->World->Prop}(h:hO n A ew hz a st w B)(J:TD P n kb own ops o i)
  (M:gA T K i st):o.wp P a w (λkI aQ=>∃dO bs,K dO/\hO n A ew hz kI dO aQ bs) aL:=by
 have m0:=J.op;rcases apK M with ⟨m,e,U,dN⟩|⟨f,args,he,dN⟩|⟨k,sz,f,args,es,he,ix,dN⟩|⟨f,args,he,dN⟩|⟨neg,x,full,he,aK,dN⟩
 ·have a0:jT P kb own o.dst o.type o.op=some i.op:=getD_some m0 (by
   intro ae;rw[ae] at U
   cases U)
  obtain⟨FY,v,aQ,bs,m2,hW,dy,ak⟩:=adB h.ok.dT h.tv a0 U;unfold Oper.wp;rw[m2];rw[J.dst] at dN;have J0:=h.put dy ak J.lt;rcases hW with rfl|⟨rfl,rfl⟩
  ·exact⟨_,bs,dN,J0⟩
  ·exact⟨_,bs,dN,J0⟩
 ·have a0:jT P kb own o.dst o.type o.op=some i.op:=getD_some m0 (by rw[he];simp);rw[he] at a0;obtain⟨c,G,mE,n0⟩:=adG a0;rw[J.dst] at dN;refine adJ cI h J.lt (x1 h.tv n0) dN λmD=>?_;obtain⟨dst,op,type,pos,after,guard⟩:=o;simp only at G;subst G;obtain⟨callee,zr,N9⟩:=c;simp only at mE;subst mE;simp only[execOp,resolve,Deferred.ofValue,Act.eval,invoke,Sem.run_bind,Sem.run_pure,Result.andThen_ok,N8 mD];rw[Bf zr];simp
 ·have a0:jT P kb own o.dst o.type o.op=some i.op:=getD_some m0 (by rw[he];simp);rw[he] at a0;obtain⟨c,G,mE,n0⟩:=adH a0;rw[J.dst] at dN;obtain⟨mD,jH⟩:=cI f _ st.mem _ ix;have hH:=jH A w B _ h.ok.dT (x1 h.tv n0);have az:=J.lt;obtain⟨dst,op,type,pos,after,guard⟩:=o;simp only at G;subst G;obtain⟨callee,zr,N9⟩:=c;simp only at mE n0;subst mE
  have m2:(execOp a.eval ⟨dst,.call ⟨.value (.func f),zr,N9⟩,type,pos,after,guard⟩).run P w=.ok (.enter f (zr.toList.map a.eval).toArray) w:=by
   simp only[execOp,resolve,Deferred.ofValue,Act.eval,invoke,Sem.run_bind,Sem.run_pure,Result.andThen_ok,N8 mD];rw[Bf zr];simp
  unfold Oper.wp;rw[m2];refine Calls.mono hH λe aQ pQ=>?_;obtain⟨v,rfl,bW,Y⟩:=pQ;obtain⟨bs,dy,ak⟩:=adF k h.ok.dT bW Y;exact⟨_,bs,dN,h.put dy ak az⟩
 ·have a0:jT P kb own o.dst o.type o.op=some i.op:=getD_some m0 (by rw[he];simp);rw[he] at a0;obtain⟨c,x,G,mE,O,n0⟩:=apH a0;rw[J.dst] at dN;have apN:=h.tv _ _ O
  have main:∀g eP,(a3 st.tm f=.fA g eP\/∃ds,a3 st.tm f=.I (.fn g ds)/\eP=ds.map .I)->u4 T K st o.dst g (args.map (a3 st.tm)++eP)->o.wp P a w (λkI aQ=>∃dO bs,K dO/\hO n A ew hz kI dO aQ bs) aL:=by
   intro g eP a9 dN;obtain⟨cs,hu,bZ⟩:=apL apN a9;refine adJ cI h J.lt ((x1 h.tv n0).append bZ) dN λmD=>?_;obtain⟨dst,op,type,pos,after,guard⟩:=o;simp only at G;subst G;obtain⟨callee,zr,N9⟩:=c;simp only at mE;subst mE;simp only[execOp,resolve,hu,Deferred.ofValue,invoke,Sem.run_bind,Sem.run_pure,Result.andThen_ok,N8 mD];rw[Bf zr];simp
  rcases dN with ⟨g,eP,a9,dN⟩|⟨g,ds,a9,dN⟩
  ·exact main g eP (.inl a9) dN
  ·exact main g _ (.inr ⟨ds,a9,rfl⟩) dN
 ·have a0:jT P kb own o.dst o.type o.op=some i.op:=getD_some m0 (by rw[he];simp);rw[he] at a0;obtain⟨t,e,y,y',z,G,aH,bA,ar⟩:=apI a0;rw[J.dst] at dN
  have TE:a.eval y' = .slice none 0 0:=by
   unfold Te at aH
   split at aH
   ·rfl
   ·cases aH
  obtain⟨b,ae,m2⟩:=apJ (y:=y) (y':=y') neg bA (h.tv _ _ ar) aK TE;obtain⟨dst,op,type,pos,after,guard⟩:=o;simp only at G;subst G;unfold Oper.wp
  have:(execOp a.eval ⟨dst,.binOp (if neg then .neq else .eql) t y y' z,type,pos,after,guard⟩).run P w=.ok (.value (.bool (neg != b))) w:=by
   simp only[execOp];rw[Sem.run_bind,m2]
   rfl
  rw[this];exact⟨_,B,dN b ae,h.put (.refl h.ok.dT) (.I .bool) J.lt⟩
end Go.Mini
namespace Go.Mini
open Go
variable {T:bb}
theorem fK {tm tm':Nat->Q}{x:bS}(h:∀s∈fm x,tm s=tm' s):a3 tm x=a3 tm' x:=by
 cases x with
 |t s=>exact h s (by simp[fm])
 |c m=>rfl
theorem map_congr {tm tm':Nat->Q}{l:List bS}(h:∀s∈l.flatMap fm,tm s=tm' s):l.map (a3 tm)=l.map (a3 tm') :=
 m3 λx O=>fK λs U=>h s (x3.2 ⟨x,O,U⟩)
theorem Oa {tm tm':Nat->Q}{l:List bS}(h:∀s∈l.flatMap fm,tm s=tm' s):(l.map λx=>ql (a3 tm x))=l.map λx=>ql (a3 tm' x) :=
 m3 λx O=>by rw[fK λs U=>h s (x3.2 ⟨x,O,U⟩)]
theorem Dr {tm tm':Nat->Q}{x:Option bS}(h:∀s∈xS x,tm s=tm' s):x.map (a3 tm)=x.map (a3 tm'):=by
 cases x with
 |none=>rfl
 |some x =>
  cases x with
  |t s=>simp[a3,h s (by simp[xS])]
  |c m=>rfl
theorem TF {tm tm':Nat->Q}:∀{ps:List (Nat×Nat×bS)} (cs:List Q),(∀s∈ps.flatMap (λp=>fm p.2.2),tm s=tm' s)->kF (a3 tm) cs ps=kF (a3 tm') cs ps
 | [],_,_=>rfl
 |(o,s,x)::ps,cs,h=>by
  have E:a3 tm x=a3 tm' x:=fK λt bA=>h t (x3.2 ⟨(o,s,x),by simp,bA⟩);simp only[kF,E]
  split
  ·exact TF _ λt bA=>h t (by simp only[List.flatMap_cons,js];exact .inr bA)
  ·rfl
theorem apO {mem:Mem}{tm tm':Nat->Q}{op:kp}(h:∀s∈sf op,tm s=tm' s):cl mem tm op=cl mem tm' op:=by
 cases op<;>simp only[sf,js] at h
 case cp x=>simp only[cl,kZ,fK h]
 case pick c a b=>simp only[cl,kZ,fK (λs U=>h s (.inl (.inl U))),fK (λs U=>h s (.inl (.inr U))),fK (λs U=>h s (.inr U))]
 case alloc=>rfl
 case box k x=>simp only[cl,fK h]
 case build z ps=>simp only[cl,kZ,TF _ h]
 case fc k o z sz len ps=>cases o<;>simp only[cl,kZ,TF _ h]
 case load n dS x=>simp only[cl,fK h]
 case store n x v=>simp only[cl,fK (λs U=>h s (.inl U)),fK (λs U=>h s (.inr U))]
 case bin o x y=>simp only[cl,kZ,fK (λs U=>h s (.inl U)),fK (λs U=>h s (.inr U))]
 case beq o x y=>simp only[cl,kZ,fK (λs U=>h s (.inl U)),fK (λs U=>h s (.inr U))]
 case eqs o l x y=>simp only[cl,kZ,fK (λs U=>h s (.inl U)),fK (λs U=>h s (.inr U))]
 case q8=>rfl
 case un o x=>simp only[cl,kZ,fK h]
 case conv k x=>simp only[cl,kZ,fK h]
 case r9 x=>simp only[cl,kZ,fK h]
 case mu k z b x y=>simp only[cl,fK (λs U=>h s (.inl U)),fK (λs U=>h s (.inr U))]
 case ef o x=>simp only[cl,kZ,fK h]
 case C8 o n dS x=>simp only[cl,kZ,fK h]
 case kE s x i=>simp only[cl,kZ,fK (λs U=>h s (.inl U)),fK (λs U=>h s (.inr U))]
 case pb n s x i=>simp only[cl,kZ,fK (λs U=>h s (.inl U)),fK (λs U=>h s (.inr U))]
 case idxs x i=>simp only[cl,kZ,fK (λs U=>h s (.inl U)),fK (λs U=>h s (.inr U))]
 case oC s x a b c =>
  have E:=fK (λs U=>h s (.inl (.inl (.inl U))));have H:=Dr (λs U=>h s (.inl (.inl (.inr U))));have af:=Dr (λs U=>h s (.inl (.inr U)));have aP:=Dr (λs U=>h s (.inr U))
  cases b<;>cases c<;>simp only[mB,adK,cm] at af aP<;>simp only[cl,kZ,mB,adK,E,H,af,aP]
 case th n s x a b c =>
  have E:=fK (λs U=>h s (.inl (.inl (.inl U))));have H:=Dr (λs U=>h s (.inl (.inl (.inr U))));have af:=Dr (λs U=>h s (.inl (.inr U)))
  cases c<;>simp only[cl,kZ,E,H,af]
 case C9 x a b=>simp only[cl,kZ,fK (λs U=>h s (.inl (.inl U))),Dr (λs U=>h s (.inl (.inr U))),Dr (λs U=>h s (.inr U))]
 case ext i x=>simp only[cl,kZ,fK h]
 case len x=>simp only[cl,kZ,fK h]
 case lens x=>simp only[cl,kZ,fK h]
 case app k z b s x=>simp only[cl,fK (λs U=>h s (.inl U)),fK (λs U=>h s (.inr U))]
 case sa s d x=>simp only[cl,fK (λs U=>h s (.inl U)),fK (λs U=>h s (.inr U))]
 case sc z x=>simp only[cl,fK h]
 case iK o x y=>simp only[cl,kZ,fK (λs U=>h s (.inl U)),fK (λs U=>h s (.inr U))]
 case call=>rfl
 case oD=>rfl
 case jQ=>rfl
 case mv=>rfl
 case ti=>rfl
 case sb=>rfl
 case pJ f l=>simp only[cl,kZ,map_congr h]
 case bad=>rfl
theorem adL {mem:Mem}{tm tm':Nat->Q}{op:kp}(h:∀s∈sf op,tm s=tm' s):hG T mem tm op=hG T mem tm' op:=by
 cases op
 case call f l =>
  have:=Oa (l:=l) (tm:=tm) (tm':=tm') (by simpa [sf] using h);simp only[hG,this]
 case oD k sz f l =>
  have:=Oa (l:=l) (tm:=tm) (tm':=tm') (by simpa [sf] using h);simp only[hG,this]
 case jQ=>rfl
 case q8=>rfl
 case mv cx f l =>
  have:=map_congr (l:=l) (tm:=tm) (tm':=tm') (by simpa [sf] using h);simp only[hG,this]
 case ti j f l =>
  have E:=map_congr (l:=l) (tm:=tm) (tm':=tm') (by simpa [sf] using h);have H:=Oa (l:=l) (tm:=tm) (tm':=tm') (by simpa [sf] using h);simp only[hG,E,H]
 case sb j f l =>
  have E:=map_congr (l:=l) (tm:=tm) (tm':=tm') (by simpa [sf] using h);have H:=Oa (l:=l) (tm:=tm) (tm':=tm') (by simpa [sf] using h);simp only[hG,E,H]
 all_goals exact apO (mem:=mem) h
theorem adM {tm tm':Nat->Q}{op:kp}(h:∀s∈sf op,tm s=tm' s):dE tm op=dE tm' op:=by
 cases op<;>simp only[sf,js] at h<;>try rfl
 case fc k o z sz len ps=>cases o<;>rfl
 case load n dS x=>simp only[dE,fK h]
 case th n s x a b c=>simp only[dE,fK (λs U=>h s (.inl (.inl (.inl U))))]
 case store n x v=>simp only[dE,fK (λs U=>h s (.inl U))]
 case app k z b s x=>simp only[dE,fK (λs U=>h s (.inl U)),fK (λs U=>h s (.inr U))]
 case sa s d x=>simp only[dE,fK (λs U=>h s (.inl U)),fK (λs U=>h s (.inr U))]
 case mv cx f l=>simp only[dE,map_congr h]
 case ti j f l=>simp only[dE,map_congr h]
 case sb j f l=>simp only[dE,map_congr h]
 case sc z x=>simp only[dE,fK h]
theorem apP {n:Nat}{m:Q}{aL:Key->Prop}(h:∀x∈Fw n m,aL x.key):∀j∈keyOf m,aL j:=by
 cases m<;>simp_all [Fw,keyOf,nk.key]
theorem adN {mem mem':Mem}{sz:Nat}{m:Q}(h:∀k∈keyOf m,mem k=mem' k):qk mem sz m=qk mem' sz m:=by
 cases m<;>try rfl
 case I d=>cases d<;>rfl
 simp only[qk];rw[h _ (by simp[keyOf])]
theorem apQ {mem mem':Mem}{k:Key}{z:List Q}{b:Nat}{m:Q}{row:Option (Nat×List Q)}(M:mem k=mem' k)(h:∀j∈keyOf m,mem j=mem' j):ra mem k z b m row=ra mem' k z b m row:=by
 cases m<;>cases row<;>try rfl
 ·simp only[ra,bY,M]
 ·simp only[ra];rw[h _ (by simp[keyOf])]
theorem apR {mem mem':Mem}{sz:Nat}{m:Q}{row:Option (Nat×List Q)}(h:∀j∈keyOf m,mem j=mem' j):wq mem sz m row=wq mem' sz m row:=by
 cases m<;>cases row<;>try rfl
 simp only[wq];rw[h _ (by simp[keyOf])]
theorem apS {mem mem':Mem}{z:List Q}{m:Q}(h:∀j∈keyOf m,mem j=mem' j):xP mem z m=xP mem' z m:=by
 cases m<;>try rfl
 simp only[xP];rw[h _ (by simp[keyOf])]
theorem apT {mem mem':Mem}{n:Nat}{dS:Bool}{m:Q}(h:∀j∈keyOf m,mem j=mem' j):qj mem n dS m=qj mem' n dS m:=by
 cases m<;>try rfl
 case I d=>cases d<;>rfl
 simp only[qj];rw[h _ (by simp[keyOf])]
theorem apU {mem mem':Mem}{n:Nat}{m:Q}{v:List Q}(h:∀j∈keyOf m,mem j=mem' j):xO mem n m v=xO mem' n m v:=by
 cases m<;>try rfl
 simp only[xO];rw[h _ (by simp[keyOf])]
theorem apV {mem mem':Mem}{n s a b:Nat}{m:Q}(h:∀j∈keyOf m,mem j=mem' j):A6 mem n s a b m=A6 mem' n s a b m:=by
 cases m<;>try rfl
 simp only[A6];rw[h _ (by simp[keyOf])]
theorem apW {mem mem':Mem}{tm:Nat->Q}{op:kp}(h:∀x∈dE tm op,mem x.key=mem' x.key):cl mem tm op=cl mem' tm op:=by
 have FY:∀k,mem k=mem' k->bY mem k=bY mem' k:=λk M=>by simp only[bY,M]
 cases op<;>try rfl
 case alloc k z=>simp only[cl,FY k (h (.hF k) (by simp[dE]))]
 case box k x=>simp only[cl,FY k (h (.hF k) (by simp[dE]))]
 case fc k o z sz len ps =>
  cases o
  ·rfl
  ·simp only[cl,FY k (h (.hF k) (by simp[dE]))]
 case mu k z b x y=>simp only[cl,FY k (h (.hF k) (by simp[dE]))]
 case load n dS x =>
  simp only[cl];rw[apT (apP (aL:=λj=>mem j=mem' j) h)]
 case th n s x a b c =>
  cases c
  ·simp only[cl]
   congr 2
   funext l
   congr 1
   funext aT
   exact apV λj ah=>h (.hF j) (by simp[dE,ah])
  ·rfl
 case store n x v =>
  simp only[cl];exact apU λj ah=>h (.hF j) (by simp[dE,ah])
 case app k z b s x =>
  have cn:∀j,j=k\/j∈keyOf (a3 tm s)\/j∈keyOf (a3 tm x)->mem j=mem' j:=λj ah=>h (.hF j) (by simpa [dE] using ah);simp only[cl,adN (sz:=D z) (λj ah=>cn j (.inr (.inr ah)))];exact apQ (cn k (.inl rfl)) λj ah=>cn j (.inr (.inl ah))
 case sa s d x =>
  have cn:∀j,j∈keyOf (a3 tm d)\/j∈keyOf (a3 tm x)->mem j=mem' j:=λj ah=>h (.hF j) (by simpa [dE] using ah);simp only[cl,adN (sz:=s) (λj ah=>cn j (.inr ah))];exact apR λj ah=>cn j (.inl ah)
 case sc z x =>
  simp only[cl];exact apS λj ah=>h (.hF j) (by simp[dE,ah])
theorem adO {mem mem':Mem}{tm:Nat->Q}{op:kp}(G:∀cx f l,op ≠ .mv cx f l)(h:∀x∈dE tm op,mem x.key=mem' x.key):hG T mem tm op=hG T mem' tm op:=by
 cases op
 case call=>rfl
 case oD k sz f l =>
  have:bY mem k=bY mem' k:=by
   have:=h (.hF k) (by simp[dE]);simp only[nk.key] at this;simp only[bY,this]
  simp only[hG,this]
 case mv cx f l=>exact absurd rfl (G cx f l)
 case ti j f l =>
  simp only[hG]
  cases hm:(l.map (a3 tm))[j]? with
  |none=>rfl
  |some m =>
   cases m<;>try rfl
   have:=h (.hF _) (by simp only[dE,hm,wu];exact gF);simp only[nk.key] at this;simp only[JE,this]
 case sb j f l =>
  simp only[hG]
  cases hm:(l.map (a3 tm))[j]? with
  |none=>rfl
  |some m =>
   cases m<;>try rfl
   have:=h (.hF _) (by simp only[dE,hm,wu];exact gF);simp only[nk.key] at this;simp only[JF,this]
 case jQ=>rfl
 case q8=>rfl
 all_goals exact apW (mem:=mem) (mem':=mem') (tm:=tm) h
theorem Ob {x:Option Q}{m:Q}{e:Option (Key×Nat×List Q)}(h:jl x=some (m,e)):e=none:=(adw h).2
theorem apX {mem:Mem}{tm:Nat->Q}{op:kp}{m:Q}{e:Option (Key×Nat×List Q)}(h:cl mem tm op=some (m,e)):e=none\/(jS op=true/\∃k g cs,e=some (k,g,cs) /\ .hF k∈dE tm op):=by
 cases op<;>try (first|exact .inl (Ob h)|exact .inl (Ob (x:=some _) h))
 case alloc k z =>
  simp only[cl,cm,fo] at h;exact .inr ⟨rfl,_,_,_,h.2.symm,by simp[dE]⟩
 case box k x =>
  simp only[cl] at h
  split at h<;>simp only[cm,fo,reduceCtorEq] at h
  exact .inr ⟨rfl,_,_,_,h.2.symm,by simp[dE]⟩
 case fc k o z sz len ps =>
  cases o
  ·exact .inl (Ob h)
  ·simp only[cl,Fu] at h
   (repeat' split at h)<;>simp only[cm,fo,reduceCtorEq] at h
   exact .inr ⟨rfl,_,_,_,h.2.symm,by simp[dE]⟩
 case mu k z b x y =>
  obtain⟨_,_,_,_,h⟩:=adx h;simp only[Fv] at h
  split at h<;>simp only[cm,fo,reduceCtorEq] at h
  exact .inr ⟨rfl,_,_,_,h.2.symm,by simp[dE]⟩
 case th n s x a b c =>
  cases c
  ·exact .inl (Ob h)
  ·cases h
 case store n x v =>
  simp only[cl] at h
  cases O:a3 tm x<;>rw[O] at h<;>simp only[xO,reduceCtorEq] at h
  simp only[JB] at h
  (repeat' split at h)<;>simp only[cm,fo,reduceCtorEq] at h
  exact .inr ⟨rfl,_,_,_,h.2.symm,by simp[dE,O,keyOf]⟩
 case app k z b s x =>
  simp only[cl] at h
  cases aa:qk mem (D z) (a3 tm x)<;>cases U:a3 tm s<;>rw[aa,U] at h<;>simp only[ra,reduceCtorEq] at h
  ·split at h<;>simp only[cm,fo,reduceCtorEq] at h
   exact .inr ⟨rfl,_,_,_,h.2.symm,by simp[dE]⟩
  ·simp only[mw] at h
   (repeat' split at h)<;>simp only[cm,fo,reduceCtorEq] at h
   exact .inr ⟨rfl,_,_,_,h.2.symm,by simp[dE,U,keyOf]⟩
 case sa s d x =>
  simp only[cl] at h
  cases aa:qk mem s (a3 tm x)<;>cases U:a3 tm d<;>rw[aa,U] at h<;>simp only[wq,reduceCtorEq] at h
  simp only[A7] at h
  (repeat' split at h)<;>simp only[cm,fo,reduceCtorEq] at h
  exact .inr ⟨rfl,_,_,_,h.2.symm,by simp[dE,U,keyOf]⟩
 case sc z x =>
  simp only[cl] at h
  cases U:a3 tm x<;>rw[U] at h<;>simp only[xP,reduceCtorEq] at h
  simp only[NP] at h
  (repeat' split at h)<;>simp only[cm,fo,reduceCtorEq] at h
  exact .inr ⟨rfl,_,_,_,h.2.symm,by simp[dE,U,keyOf]⟩
 all_goals cases h
theorem adP {mem:Mem}{j:Nat}{f:FuncId}{ms:List Q}{x:Option Q}{m:Q}{e:Option (Key×Nat×List Q)}(h:JE T mem j f ms x=some (m,e)):
  ∃k g sz off len cs d r,x=some (.ref k g sz off len)/\mem k=some (g,cs)/\JD sz off len cs=some d/\NQ (T f (ms.set j (.I d)) emp)=some r/\m=.I r/\e=some (k,bY mem k,[]):=by
 unfold JE at h
 split at h
 ·rename_i k g sz off len;unfold Tb at h
  split at h
  ·rename_i c0 cs hm
   split at h
   ·rename_i a9;subst a9
    split at h
    ·rename_i d Y
     split at h
     ·rename_i r aa;simp only[cm,fo] at h;exact⟨k,_,sz,off,len,cs,d,r,rfl,hm,Y,aa,h.1.symm,by rw[<-h.2];simp[bY,hm]⟩
     ·cases h
    ·cases h
   ·cases h
  ·cases h
 ·cases h
theorem adQ {mem:Mem}{j:Nat}{f:FuncId}{ms:List Q}{x:Option Q}{m:Q}{e:Option (Key×Nat×List Q)}(h:JF T mem j f ms x=some (m,e)):
  ∃k g sz off len c0 cs r,x=some (.ref k g sz off len)/\mem k=some (c0,cs)/\nU cs=true/\T f (ms.set j (.ref k g sz off len)) (a1 emp k c0 cs)=some (.ze r k)/\m=.I r/\e=some (k,bY mem k,[]):=by
 unfold JF at h
 split at h
 ·rename_i k g sz off len;unfold Tc at h
  split at h
  ·rename_i c0 cs hm
   split at h
   ·rename_i Y
    split at h
    ·rename_i r k' aa
     split at h
     ·rename_i M;subst M;simp only[cm,fo] at h;exact⟨_,g,sz,off,len,c0,cs,r,rfl,hm,Y,aa,h.1.symm,by rw[<-h.2];simp[bY,hm]⟩
     ·cases h
    ·cases h
   ·cases h
  ·cases h
 ·cases h
theorem adR {cx:Nat}{mem:Mem}{ms:List Q}{x:Option g8}{m:Q}{e:Option (Key×Nat×List Q)}(h:Fx cx mem ms x=some (m,e)):
  ∃r k g i c cs,x=some (.e6 r k g i c)/\mem k=some (g,cs)/\m=.I r/\e=some (k,g,cs.set i c)/\JC cx ms=[.wr k i]:=by
 unfold Fx at h
 split at h
 ·rename_i k g off rest r k' c0 i c
  split at h
  ·rename_i Ds cs hm
   split at h
   ·rename_i G;obtain⟨rfl,rfl,rfl⟩:=G;simp only[cm,fo] at h;exact⟨r,_,_,_,c,cs,rfl,hm,h.1.symm,h.2.symm,rfl⟩
   ·cases h
  ·cases h
 ·cases h
theorem TG {mem:Mem}{tm:Nat->Q}{op:kp}{m:Q}{e:Option (Key×Nat×List Q)}(h:hG T mem tm op=some (m,e)):e=none\/(jS op=true/\∃k g cs,e=some (k,g,cs)/\(.hF k∈dE tm op\/∃i c tw,dE tm op=[.wr k i]/\mem k=some (g,tw)/\cs=tw.set i c)):=by
 have pl:cl mem tm op=some (m,e)->e=none\/(jS op=true/\∃k g cs,e=some (k,g,cs)/\(.hF k∈dE tm op\/∃i c tw,dE tm op=[.wr k i]/\mem k=some (g,tw)/\cs=tw.set i c)):=λh=>by
  rcases apX h with h|⟨E,k,g,cs,H,af⟩
  ·exact .inl h
  ·exact .inr ⟨E,k,g,cs,H,.inl af⟩
 cases op
 case call f l =>
  simp only[hG] at h
  split at h<;>simp only[cm,fo,reduceCtorEq] at h
  ·exact .inl h.2.symm
  ·exact .inl h.2.symm
 case oD k sz f l =>
  simp only[hG] at h
  (repeat' split at h)<;>simp only[cm,fo,reduceCtorEq] at h
  exact .inr ⟨rfl,_,_,_,h.2.symm,.inl (by simp[dE])⟩
 case jQ=>cases h
 case q8=>cases h
 case mv cx f l =>
  obtain⟨r,k,g,i,c,cs,-,hm,-,he,aK⟩:=adR h;exact .inr ⟨rfl,k,g,_,he,.inr ⟨i,c,cs,aK,hm,rfl⟩⟩
 case ti j f l =>
  simp only[hG] at h;obtain⟨k,g,sz,off,len,cs,d,r,O,hm,-,-,-,he⟩:=adP h;exact .inr ⟨rfl,k,_,_,he,.inl (by simp only[dE,O,wu];exact gF)⟩
 case sb j f l =>
  simp only[hG] at h;obtain⟨k,g,sz,off,len,c0,cs,r,O,hm,-,-,-,he⟩:=adQ h;exact .inr ⟨rfl,k,_,_,he,.inl (by simp only[dE,O,wu];exact gF)⟩
 all_goals exact pl h
theorem apY {tm:Nat->Q}{op:kp}{b:nk}(ae:b∈dE tm op):(∃k,b=.hF k)\/(∃n dS x k g off,op=.load n dS x/\a3 tm x=.ptr k g off/\b=.rd k off (off+n))\/∃cx f l,op=.mv cx f l:=by
 cases op
 case load n dS x =>
  simp only[dE] at ae
  cases O:a3 tm x<;>rw[O] at ae<;>simp[Fw] at ae
  ·exact .inl ⟨_,ae⟩
  ·exact .inr (.inl ⟨_,_,_,_,_,_,rfl,O,ae⟩)
 case mv cx f l=>exact .inr (.inr ⟨_,_,_,rfl⟩)
 case ti j f l =>
  simp only[dE] at ae
  cases hm:(l.map (a3 tm))[j]? with
  |none=>rw[hm] at ae;simp[wu] at ae
  |some m =>
   rw[hm] at ae
   cases m<;>simp[wu] at ae
   exact .inl ⟨_,ae⟩
 case sb j f l =>
  simp only[dE] at ae
  cases hm:(l.map (a3 tm))[j]? with
  |none=>rw[hm] at ae;simp[wu] at ae
  |some m =>
   rw[hm] at ae
   cases m<;>simp[wu] at ae
   exact .inl ⟨_,ae⟩
 case fc k o z sz len ps =>
  cases o<;>simp[dE] at ae;exact .inl ⟨_,ae⟩
 all_goals
  simp[dE] at ae
  try first
   |exact .inl ⟨_,ae⟩
   |(rcases ae with ⟨k,_,h⟩|⟨k,_,h⟩<;>exact .inl ⟨k,h.symm⟩)
   |(rcases ae with h|⟨k,_,h⟩|⟨k,_,h⟩<;>first|exact .inl ⟨_,h⟩|exact .inl ⟨_,h.symm⟩)
   |(obtain⟨k,_,h⟩:=ae;exact .inl ⟨k,h.symm⟩)
theorem apZ {cs:List Q}{i off n:Nat}{c:Q}(h:i<off\/off+n<=i):cut (cs.set i c) off n=cut cs off n:=by
 unfold cut;rw[iY]
 split
 ·congr 1
  rcases h with h|h
  ·rw[tx h]
  ·by_cases J:i<off
   ·rw[tx J]
   ·rw[List.drop_set,ag J,List.take_set_of_le (by omega)]
 ·rfl
theorem ap0 {mem:Mem}{k g i:Nat}{c:Q}{cs:List Q}{n:Nat}{dS:Bool}{k' c0 off:Nat}(hm:mem k=some (g,cs))(h:k'≠k\/i<off\/off+n<=i):
  qj (a1 mem k g (cs.set i c)) n dS (.ptr k' c0 off)=qj mem n dS (.ptr k' c0 off):=by
 by_cases M:k'=k
 ·subst M;have h:=h.resolve_left (λh=>h rfl);simp only[qj,a1,if_true,hm,apZ h]
 ·simp only[qj,a1,M,if_false]
theorem adS {mem:Mem}{tm:Nat->Q}{x y:kp}{m:Q}{e:Option (Key×Nat×List Q)}(ap1:hG T mem tm x=some (m,e))(aM:rf (jS x,dE tm x) (jS y,dE tm y)=true):hG T (iq mem e) tm y=hG T mem tm y:=by
 rcases TG ap1 with rfl|⟨hw,k,g,cs,rfl,M⟩
 ·rfl
 ·have fh:∀a∈dE tm x,∀b∈dE tm y,re a b=true:=by
   unfold rf at aM
   simpa [hw] using aM
  have ap2:∀cx f l,y=.mv cx f l->dE tm y=[]:=by
   rintro cx f l rfl
   cases ae:dE tm (.mv cx f l) with
   |nil=>rfl
   |cons b r =>
    exfalso
    have kG:∃k' bk,b=.wr k' bk:=by
     simp only[dE] at ae;unfold JC at ae
     split at ae
     ·cases ae;exact⟨_,_,rfl⟩
     ·cases ae
    obtain⟨k',bk,rfl⟩:=kG;have hm:nk.wr k' bk∈dE tm (.mv cx f l):=by rw[ae];exact gF
    rcases M with M|⟨i,c,tw,aK,_,_⟩
    ·have:=fh _ M _ hm;simp[re] at this
    ·have:=fh (.wr k i) (by rw[aK];exact gF) _ hm;simp[re] at this
  by_cases ar:∃cx f l,y=.mv cx f l
  ·obtain⟨cx,f,l,rfl⟩:=ar;have ao:=ap2 _ _ _ rfl;simp only[dE] at ao
   have aW:∀mem' jq,Fx cx mem' (l.map (a3 tm)) jq=none:=by
    intro mem' jq;unfold Fx
    split
    ·rename_i heq;rw[heq] at ao;simp[JC] at ao
    ·rfl
   simp only[hG,aW]
  ·have G:∀cx f l,y ≠ .mv cx f l:=λcx f l h=>ar ⟨cx,f,l,h⟩;rcases M with M|⟨i,c,tw,aK,hm,rfl⟩
   ·refine (adO G λb ae=>?_).symm;have E:=fh _ M b ae
    have:b.key≠k:=by
     rintro rfl
     cases b<;>simp[re,nk.key] at E
    simp[iq,a1,this]
   ·have E:=fh (.wr k i) (by rw[aK];exact gF)
    by_cases av:∃n dS z k' c0 off,y=.load n dS z/\a3 tm z=.ptr k' c0 off
    ·obtain⟨n,dS,z,k',c0,off,rfl,aW⟩:=av;have H:=E (.rd k' off (off+n)) (by simp[dE,aW,Fw]);simp only[hG,cl,aW,iq];rw[ap0 hm];simp[re] at H;exact H
    ·refine (adO G λb ae=>?_).symm
     exfalso
     rcases apY ae with ⟨k',rfl⟩|⟨n,dS,z,k',c0,off,af,aP,_⟩|⟨cx,f,l,af⟩
     ·have:=E _ ae;simp[re] at this
     ·exact av ⟨n,dS,z,k',c0,off,af,aP⟩
     ·exact G _ _ _ af
theorem adT {tm:Nat->Q}{op:kp}(h:se op=0):dE tm op=[]/\jS op=false:=by
 cases op<;>simp_all [se,jS,dE]
 all_goals (rename_i b _ _ _ _;cases b<;>simp_all [jS,dE])
theorem adU {op:kp}(h:se op=1):jS op=false:=by
 cases op<;>simp_all [se,jS]
 all_goals (rename_i b _ _ _ _;cases b<;>simp_all [jS])
end Go.Mini
namespace Go.Mini
open Go
variable {T:bb} {jZ:Nat->Nat->Bool}
def x4 (T:bb)(jZ:Nat->Nat->Bool)(i:Nat)(x:c6)(rec:Rec)(st:ba)(zs:Rec)(dO:ba):Prop :=
 (pc st.tm x.g=some false/\zs=rec/\dO=⟨put st.tm x.dst .no,st.mem⟩) \/
 (pc st.tm x.g=some true/\∃m e,hG T st.mem st.tm x.op=some (m,e)/\(∀p q,jZ p i=true->rec p=some q->rf q (jS x.op,dE st.tm x.op)=true) /\
  zs=u5 rec i (jS x.op,dE st.tm x.op)/\dO=⟨put st.tm x.dst m,iq st.mem e⟩)
theorem wD {tm:Nat->Q}{dst:Option Nat}{m:Q}{s:Nat}(h:dst≠some s):put tm dst m s=tm s:=by
 cases dst with
 |none=>rfl
 |some d =>
  have:s≠d:=λe=>h (by rw[e]);simp[put,this]
theorem put_comm {tm:Nat->Q}{d x2:Option Nat}{m m':Q}(h:∀s,d=some s->x2≠some s):put (put tm d m) x2 m'=put (put tm x2 m') d m:=by
 funext s
 by_cases E:d=some s
 ·rw[wD (h s E)];subst E;simp[put]
 ·rw[wD (dst:=d) E]
  by_cases H:x2=some s
  ·subst H;simp[put]
  ·rw[wD H,wD H,wD E]
theorem adV {tm tm':Nat->Q}{g:Option (Nat×Bool)}(h:∀s b,g=some (s,b)->tm s=tm' s):pc tm g=pc tm' g:=by
 cases g with
 |none=>rfl
 |some p =>
  obtain⟨s,b⟩:=p;simp only[pc,h s b rfl]
theorem adW {x y:c6}(h:xT x y=true):(∀d,x.dst=some d->d ∉ A9 y)/\(∀d,x.dst=some d->y.dst≠some d)/\(∀d,y.dst=some d->d ∉ A9 x):=by
 refine⟨λd Y=>?_,λd Y=>?_,λd Y=>?_⟩<;>simp[xT,Y] at h
 ·exact h.1.1
 ·exact h.1.2
 ·exact h.2
theorem Oc {x:c6}{s:Nat}(h:s∈sf x.op):s∈A9 x:=by simp[A9,h]
theorem adX {x:c6}{s:Nat}{b:Bool}(h:x.g=some (s,b)):s∈A9 x:=by simp[A9,h]
theorem ap3 (a b:nk):re a b=re b a:=by
 have G:∀k k':Nat,(k==k')=(k'==k):=λk k'=>BEq.comm
 cases a<;>cases b<;>first|rfl|(unfold re;dsimp only;rw[G])
theorem adY {a b:Bool×List nk}(h:rf a b=true):rf b a=true:=by
 unfold rf at *;simp only[x5,Bool.not_eq_true',Bool.or_eq_false_iff,nq] at *;rcases h with ⟨E,H⟩|h
 ·exact .inl ⟨H,E⟩
 ·exact .inr λx O y ar=>by rw[ap3];exact h y ar x O
theorem ap4 {mem:Mem}{e e':Option (Key×Nat×List Q)}(h:∀j g cs lW c0 nm,e=some (j,g,cs)->e'=some (lW,c0,nm)->j≠lW):iq (iq mem e) e'=iq (iq mem e') e:=by
 cases e with
 |none=>rfl
 |some p =>
  cases e' with
  |none=>rfl
  |some oL =>
   obtain⟨j,g,cs⟩:=p;obtain⟨lW,c0,nm⟩:=oL;have bI:=h _ _ _ _ _ _ rfl rfl
   funext k
   simp only[iq,a1]
   by_cases E:k=lW
   ·by_cases H:k=j
    ·exact absurd (H.symm.trans E) bI
    ·simp[E,H];intro af;exact absurd af.symm bI
   ·simp[E]
def Passes (jZ:Nat->Nat->Bool)(i j:Nat)(x y:c6):Prop:=jZ i j=true\/zh (se x.op) (se y.op)=true
theorem ap5 {i j:Nat}{x y:c6}{tm:Nat->Q}(h:Passes jZ i j x y)(G:jZ i j=true->rf (jS x.op,dE tm x.op) (jS y.op,dE tm y.op)=true):
  rf (jS x.op,dE tm x.op) (jS y.op,dE tm y.op)=true:=by
 rcases h with h|h
 ·exact G h
 ·unfold zh at h;simp only[x5,e9,beq_iff_eq] at h;rcases h with (h|h)|⟨E,H⟩
  ·obtain⟨E,H⟩:=adT (tm:=tm) h;simp[rf,E]
  ·obtain⟨E,H⟩:=adT (tm:=tm) h;simp[rf,E]
  ·have E:=adU E;have H:=adU H;simp[rf,E,H]
theorem x4.comm {i j:Nat}{x y:c6}{rec rp Od:Rec}{st rq Oe:ba}(mF:i≠j)(dG:xT x y=true)(aF:Passes jZ i j x y)(TH:∀a b,jZ a b=jZ b a)(iy:rec i=none)
  (E:x4 T jZ i x rec st rp rq) (H:x4 T jZ j y rp rq Od Oe):∃J1 J2,x4 T jZ j y rec st J1 J2/\x4 T jZ i x J1 J2 Od Oe:=by
 obtain⟨aM,ae,G⟩:=adW dG
 -- what one sees of the other's temporary: nothing
 have ap6:∀m,pc (put st.tm x.dst m) y.g=pc st.tm y.g:=λm=>adV λs b U=>wD λY=>aM s Y (adX U);have ap7:∀mem m,hG T mem (put st.tm x.dst m) y.op=hG T mem st.tm y.op:=λmem m=>adL λs U=>wD λY=>aM s Y (Oc U);have ap8:∀m,dE (put st.tm x.dst m) y.op=dE st.tm y.op:=λm=>adM λs U=>wD λY=>aM s Y (Oc U);have Of:∀m,pc (put st.tm y.dst m) x.g=pc st.tm x.g:=λm=>adV λs b U=>wD λY=>G s Y (adX U);have adZ:∀mem m,hG T mem (put st.tm y.dst m) x.op=hG T mem st.tm x.op:=λmem m=>adL λs U=>wD λY=>G s Y (Oc U);have Og:∀m,dE (put st.tm y.dst m) x.op=dE st.tm x.op:=λm=>adM λs U=>wD λY=>G s Y (Oc U);have l0:∀m m',put (put st.tm x.dst m) y.dst m'=put (put st.tm y.dst m') x.dst m:=λm m'=>put_comm ae;rcases E with ⟨cE,rfl,rfl⟩|⟨cE,dJ,ay,s1,aI,rfl,rfl⟩<;>rcases H with ⟨ck,rfl,rfl⟩|⟨ck,cU,aB,s2,c2,rfl,rfl⟩<;>simp only[ap6,ap7,ap8] at *
 ·exact⟨_,_,.inl ⟨ck,rfl,rfl⟩,.inl ⟨by simp only[Of];exact cE,rfl,by simp only[l0]⟩⟩
 ·exact⟨_,_,.inr ⟨ck,cU,aB,s2,c2,rfl,rfl⟩,.inl ⟨by simp only[Of];exact cE,rfl,by simp only[l0]⟩⟩
 ·exact⟨_,_,.inl ⟨ck,rfl,rfl⟩,.inr ⟨by simp only[Of];exact cE,dJ,ay,by simp only[adZ];exact s1,by simp only[Og];exact aI,by simp only[Og],by simp only[l0]⟩⟩
 ·have ad0:jZ i j=true->rf (jS x.op,dE st.tm x.op) (jS y.op,dE st.tm y.op)=true:=λh=>c2 i _ h (by simp[u5]);have Bj:=ap5 (tm:=st.tm) aF ad0;have TI:hG T st.mem st.tm y.op=some (cU,aB):=by rw[<-s2];exact (adS s1 Bj).symm
  have fx:∀j g cs lW c0 nm,ay=some (j,g,cs)->aB=some (lW,c0,nm)->j≠lW:=by
   rintro k g cs k' c0 nm rfl rfl rfl;rcases TG s1 with h|⟨hw,dd,ck,n1,h,E⟩
   ·cases h
   ·cases h;rcases TG TI with h|⟨ad1,ey,hj,aJs,h,H⟩
    ·cases h
    ·cases h;unfold rf at Bj;simp only[hw,Bool.true_or,Bool.not_true,Bool.false_or,nq] at Bj;rcases E with E|⟨i,c,tw,E,_,_⟩<;>rcases H with H|⟨bk,c',aJt,H,_,_⟩
     ·have:=Bj _ E _ H;simp[re] at this
     ·have:=Bj _ E (.wr k bk) (by rw[H];exact gF);simp[re] at this
     ·have:=Bj (.wr k i) (by rw[E];exact gF) _ H;simp[re] at this
     ·have:=Bj (.wr k i) (by rw[E];exact gF) (.wr k bk) (by rw[H];exact gF);simp[re] at this
  refine⟨_,_,.inr ⟨ck,cU,aB,TI,λp q Oh aO=>?_,rfl,rfl⟩,.inr ⟨by simp only[Of];exact cE,dJ,ay,?_,?_,?_,?_⟩⟩
  ·have bI:p≠i:=λh=>by rw[h,iy] at aO;cases aO
   exact c2 p q Oh (by simp[u5,bI,aO])
  ·simp only[adZ];rw[<-s1];exact adS TI (adY Bj)
  ·simp only[Og];intro p q zt aO
   by_cases Oh:p=j
   ·subst Oh;simp only[u5,if_true,cm] at aO;subst aO;exact adY (ad0 (by rw[TH];exact zt))
   ·simp only[u5,Oh,if_false] at aO;exact aI p q zt aO
  ·simp only[Og]
   funext p
   simp only[u5]
   by_cases E:p=i
   ·subst E;simp[mF]
   ·simp[E]
  ·simp only[l0];rw[ap4 fx]
end Go.Mini
namespace Go.Mini
open Go
variable {T:bb} {jZ:Nat->Nat->Bool} {ops:Array Oper} {l:List c6} {K:ba->Prop}
def FZ (T:bb)(jZ:Nat->Nat->Bool)(ops:Array Oper)(l:List c6)(K:ba->Prop):Nat->Array Bool->Rec->ba->Prop
 |0,eU,_,st=>Region.ready .any ops eU=[]/\K st
 |fuel+1,eU,rec,st=>(Region.ready .any ops eU=[]->K st) /\
  ∀i∈Region.ready .any ops eU,∃x zs dO,l[i]?=some x/\x4 T jZ i x rec st zs dO/\FZ T jZ ops l K fuel (eU.setIfInBounds i true) zs dO
def Bk (ops:Array Oper)(eU:Array Bool):Prop :=
 eU.size=ops.size/\∀(j:Nat) (o:Oper),ops[j]?=some o->eU.getD j false=true->∀e∈o.after,Region.binds .any e=true->eU.getD e.on false=true
theorem Bk.set {eU:Array Bool}{i:Nat}(h:Bk ops eU)(J:i∈Region.ready .any ops eU):Bk ops (eU.setIfInBounds i true):=by
 refine⟨by simp[h.1],λj o ah av e he ae=>?_⟩
 by_cases ic:j=i
 ·subst ic;obtain⟨_,J3,bL,fh⟩:=mem_ready.1 J;rw[ah] at bL
  cases bL;exact getD_set_true (fh e he ae)
 ·rw[getD_set_ne false (Ne.symm ic)] at av;exact getD_set_true (h.2 j o ah av e he ae)
def TJ (jZ:Nat->Nat->Bool)(ops:Array Oper)(l:List c6):Prop :=
 ∀(i j:Nat) (x y:c6),i≠j->l[i]?=some x->l[j]?=some y ->
  (∀eU,Bk ops eU->i∈Region.ready .any ops eU->j∈Region.ready .any ops eU->False)\/(xT x y=true/\Passes jZ i j x y)
theorem ad2 {i k:Nat}{x:c6}{rec zs:Rec}{st dO:ba}(h:x4 T jZ i x rec st zs dO)(M:k≠i):zs k=rec k:=by
 rcases h with ⟨_,rfl,_⟩|⟨_,_,_,_,_,rfl,_⟩
 ·rfl
 ·simp[u5,M]
theorem ap9 {eU:Array Bool}{i k:Nat}(h:(eU.setIfInBounds i true).getD k true=false):k≠i/\eU.getD k true=false:=by
 by_cases pg:i=k
 ·subst pg
  exfalso
  by_cases az:i<eU.size
  ·simp[az] at h
  ·have:(eU.setIfInBounds i true).size<=i:=by simp;omega
   rw[Array.getD_eq_getD_getElem?,Array.getElem?_eq_none this] at h;simp at h
 ·rw[getD_set_ne true pg] at h;exact⟨λcn=>pg cn.symm,h⟩
theorem aqa (aF:TJ jZ ops l)(TH:∀a b,jZ a b=jZ b a){i:Nat}{x:c6}(J:l[i]?=some x):∀(fuel:Nat) (eU:Array Bool) (rec:Rec) (st:ba) (rp:Rec) (rq:ba),
  Bk ops eU->(∀k,eU.getD k true=false->rec k=none)->i∈Region.ready .any ops eU->x4 T jZ i x rec st rp rq ->
  FZ T jZ ops l K fuel (eU.setIfInBounds i true) rp rq->FZ T jZ ops l K (fuel+1) eU rec st:=by
 intro fuel
 induction fuel with
 |zero =>
  intro eU rec st rp rq dM Bl aa he hI;refine⟨λh=>(by rw[h] at aa;cases aa),λj ah=>?_⟩
  by_cases ic:j=i
  ·subst ic;exact⟨x,rp,rq,J,he,hI⟩
  ·have:=ready_mono ah ic;rw[hI.1] at this
   cases this
 |succ fuel aA =>
  intro eU rec st rp rq dM Bl aa he hI;refine⟨λh=>(by rw[h] at aa;cases aa),λj ah=>?_⟩
  by_cases ic:j=i
  ·subst ic;exact⟨x,rp,rq,J,he,hI⟩
  ·obtain⟨y,Od,Oe,ar,iz,dN⟩:=hI.2 j (ready_mono ah ic);rcases aF i j x y (Ne.symm ic) J ar with gq|⟨dG,aqb⟩
   ·exact (gq eU dM aa ah).elim
   ·obtain⟨J1,J2,E,H⟩:=x4.comm (Ne.symm ic) dG aqb TH (Bl i (mem_ready.1 aa).1) he iz;refine⟨y,J1,J2,ar,E,aA _ J1 J2 Od Oe (dM.set ah) (λk M=>?_) (ready_mono aa (Ne.symm ic)) H ?_⟩
    ·obtain⟨af,aP⟩:=ap9 M;rw[ad2 E af];exact Bl k aP
    ·rw[Array.setIfInBounds_comm _ _ ic];exact dN
theorem TK:∀(r:List Oper) (acc:List Nat) (k:Nat),k<(D acc)->(qm r acc).getD k 0=acc.getD k 0
 | [],acc,k,_=>rfl
 |o::r,acc,k,M=>by
  simp only[qm];rw[TK r _ k (by simp;omega)];simp only[dZ];rw[qq M]
theorem aqc {es:List Edge}{acc:List Nat}{i:Nat}:∀(s:Nat),(es.foldl (λs e=>if Region.binds .any e=true then s ||| (2^e.on ||| acc.getD e.on 0) else s) s).testBit i=true ->
  s.testBit i=true\/∃e∈es,Region.binds .any e=true/\(e.on=i\/(acc.getD e.on 0).testBit i=true):=by
 induction es with
 |nil=>exact λs h => .inl h
 |cons e es aA =>
  intro s h;rw[Bb] at h;rcases aA _ h with E|⟨e',E,H⟩
  ·split at E
   ·rename_i ae;rw[ad3,ad3,x5,x5] at E;rcases E with E|E|E
    ·exact .inl E
    ·rw[Nat.testBit_two_pow] at E;exact .inr ⟨e,by simp,ae,.inl (by simpa using E)⟩
    ·exact .inr ⟨e,by simp,ae,.inr E⟩
   ·exact .inl E
  ·exact .inr ⟨e',by simp[E],H⟩
theorem ad4:∀(r:List Oper) (acc:List Nat) (t:Nat) (o:Oper),r[t]?=some o->∀i,((qm r acc).getD (D acc+t) 0).testBit i=true ->
  ∃e∈o.after.toList,Region.binds .any e=true/\(e.on=i\/(e.on<D acc+t/\((qm r acc).getD e.on 0).testBit i=true))
 | [],_,_,_,h,_,_=>by simp at h
 |J3::r,acc,0,o,h,i,ae=>by
  simp at h;subst h;simp only[qm,nX] at ae ⊢;rw[TK r _ _ (by simp)] at ae;simp only[dZ] at ae;rw[ri (bX _)] at ae;simp only[my,zu,ad5] at ae;rcases aqc (acc:=acc) 0 (by simpa only [dZ] using ae) with E|⟨e,E,H,af⟩
  ·simp at E
  ·refine⟨e,E,H,af.imp id λh=>?_⟩
   have az:e.on<D acc:=by
    rcases ir e.on (D acc) with cn|cn
    ·exact cn
    ·rw[dZ,mx cn] at h;simp at h
   refine⟨az,?_⟩;rw[TK r _ _ (by simp;omega),dZ,qq az,<-dZ];exact h
 |J3::r,acc,t+1,o,h,i,ae=>by
  have cn:r[t]?=some o:=by simpa using h
  simp only[qm] at ae ⊢
  have:=ad4 r (acc++[J3.after.toList.foldl (λs e=>if Region.binds .any e=true then s ||| (2^e.on ||| acc.getD e.on 0) else s) 0]) t o cn i (by
   rw[fQ,List.length_singleton,qp,zb 1 t];exact ae)
  obtain⟨e,E,H,af⟩:=this;refine⟨e,E,H,af.imp id λh=>⟨by have:=h.1;simp at this;omega,h.2⟩⟩
theorem aqd {eU:Array Bool}(dM:Bk ops eU):∀(j:Nat) (o:Oper),ops[j]?=some o->(∀e∈o.after,Region.binds .any e=true->eU.getD e.on false=true) ->
  ∀i,((qm ops.toList []).getD j 0).testBit i=true->eU.getD i false=true:=by
 intro j
 induction j using Nat.strongRecOn with
 |_ j aA =>
  intro o bL fh i J;obtain⟨e,he,ae,h⟩:=ad4 ops.toList [] j o (by simpa using bL) i (by simpa using J);have av:=fh e (by simpa using he) ae;rcases h with rfl|⟨az,aqe⟩
  ·exact av
  ·have e4:e.on<ops.size:=by
    rw[<-dM.1];rcases ir e.on eU.size with cn|cn
    ·exact cn
    ·simp[Array.getElem?_eq_none cn] at av
   have ad6:ops[e.on]?=some ops[e.on]:=Array.getElem?_eq_getElem e4;exact aA e.on (by simpa using az) _ ad6 (dM.2 e.on _ ad6 av) i aqe
theorem ad7:∀(cs pre:List c6) (as:List Nat),FC pre cs as=true->∀(t:Nat) (y:c6),cs[t]?=some y->∀(i:Nat) (x:c6),(pre++cs)[i]?=some x->i<D pre+t ->
  (as.getD t 0).testBit i=true\/xT x y=true
 | [],_,_,_,_,_,h,_,_,_,_=>by simp at h
 |_::_,_,[],h,_,_,_,_,_,_,_=>by simp[FC] at h
 |c::cs,pre,a::as,h,0,y,ar,i,x,O,az=>by
  simp only[FC,e9,nq] at h;simp at ar;subst ar;have J:i<D pre:=by simpa using az
  rw[qq J] at O;have:=h.1 (x,i) (by rw[ad8];exact O)
  simpa using this
 |c::cs,pre,a::as,h,t+1,y,ar,i,x,O,az=>by
  simp only[FC,e9] at h;have:=ad7 cs (pre++[c]) as h.2 t y (by simpa using ar) i x (by simpa using O) (by simp;omega)
  simpa using this
theorem ad9:∀(cs pre:List c6) (as:List Nat) (t:Nat) (y:c6),cs[t]?=some y->∀(i:Nat) (x:c6),(pre++cs)[i]?=some x->i<D pre+t ->
  (as.getD t 0).testBit i=true\/zh (se x.op) (se y.op)=true\/i∈(zi pre cs as).getD t []
 | [],_,_,_,_,h,_,_,_,_=>by simp at h
 |c::cs,pre,as,0,y,ar,i,x,O,az=>by
  simp at ar;subst ar;have J:i<D pre:=by simpa using az
  rw[qq J] at O;have gp:(x,i)∈pre.zipIdx:=by rw[ad8];exact O
  by_cases E:(as.getD 0 0).testBit i=true
  ·exact .inl E
  ·by_cases H:zh (se x.op) (se c.op)=true
   ·exact .inr (.inl H)
   ·refine .inr (.inr ?_);simp only[zi,dZ,zu,ad5];refine List.mem_map.2 ⟨(x,i),List.mem_filter.2 ⟨gp,?_⟩,rfl⟩;have af:as.headD 0=as.getD 0 0:=by cases as<;>rfl
    simp only[af];rw[dZ] at E;simp[E,H]
 |c::cs,pre,as,t+1,y,ar,i,x,O,az=>by
  have:=ad9 cs (pre++[c]) as.tail t y (by simpa using ar) i x (by simpa using O) (by simp;omega);have af:as.tail.getD t 0=as.getD (t+1) 0:=by cases as<;>simp
  rw[af] at this
  simpa [zi] using this
def wE (c:List (List Nat))(i j:Nat):Bool:=if i<j then (c.getD j []).contains i else if j<i then (c.getD i []).contains j else false
theorem aea (c:List (List Nat))(i j:Nat):wE c i j=wE c j i:=by
 unfold wE
 by_cases E:i<j
 ·simp[E,aeb E]
 ·by_cases H:j<i
  ·simp[H,aeb H]
  ·simp[E,H]
theorem aqf {x y:c6}(h:xT x y=true):xT y x=true:=by
 obtain⟨E,H,af⟩:=adW h;unfold xT;rw[e9]
 constructor
 ·cases ar:y.dst with
  |none=>rfl
  |some d =>
   have a:=af d ar;have b:x.dst≠some d:=λO=>H d O ar;simp[a,b]
 ·cases O:x.dst with
  |none=>rfl
  |some d =>
   have a:=E d O;simp[a]
theorem aqg (a b:Nat):zh a b=zh b a:=by
 unfold zh
 cases (a==0)<;>cases (b==0)<;>cases (a==1)<;>cases (b==1)<;>rfl
theorem aqh (Y:FF ops l=true):TJ (wE (zi [] l (qm ops.toList []))) ops l:=by
 have key:∀(i j:Nat) (x y:c6),i<j->l[i]?=some x->l[j]?=some y ->
   (∀eU,Bk ops eU->i∈Region.ready .any ops eU->j∈Region.ready .any ops eU->False) \/
   (xT x y=true/\(wE (zi [] l (qm ops.toList [])) i j=true\/zh (se x.op) (se y.op)=true)):=by
  intro i j x y mF O ar;unfold FF at Y;rw[e9] at Y
  by_cases ae:((qm ops.toList []).getD j 0).testBit i=true
  ·refine .inl λeU dM J ah=>?_;obtain⟨_,o,bL,fh⟩:=mem_ready.1 ah;have E:=aqd dM j o bL fh i ae;have ao:=(mem_ready.1 J).1;rcases ir i eU.size with cn|cn
   ·simp[cn] at ao E;rw[ao] at E;cases E
   ·simp[Array.getElem?_eq_none cn] at E
  ·refine .inr ⟨?_,?_⟩
   ·rcases ad7 l [] _ Y.2 j y ar i x (by simpa using O) (by simpa using mF) with h|h
    ·exact absurd h ae
    ·exact h
   ·rcases ad9 l [] (qm ops.toList []) j y ar i x (by simpa using O) (by simpa using mF) with h|h|h
    ·exact absurd h ae
    ·exact .inr h
    ·exact .inl (by unfold wE;rw[ab mF];exact aec.2 h)
 intro i j x y mF O ar;rcases Nat.lt_or_gt_of_ne mF with h|h
 ·exact key i j x y h O ar
 ·rcases key j i y x h ar O with E|⟨E,H⟩
  ·exact .inl λeU dM J ah=>E eU dM ah J
  ·refine .inr ⟨aqf E,?_⟩;rcases H with H|H
   ·exact .inl (by rw[aea];exact H)
   ·exact .inr (by rw[aqg];exact H)
end Go.Mini
namespace Go.Mini
open Go
variable {P:Program} {T:bb} {A:Nat->Prop} {ew w:World} {hz B:e5} {mem:Mem} {n kb:Nat} {own:List Nat} {ops:Array Oper} {l:List c6} {K:ba->Prop} {aL:Exit->Act->World->Prop}
theorem aed:∀(r:List Oper) (m:Nat),FE m r=true->∀(t:Nat) (o:Oper),r[t]?=some o->∀e∈o.after,Region.binds .any e=true->e.on<m+t
 | [],_,_,_,_,h,_,_,_=>by simp at h
 |J3::r,m,h,0,o,bL,e,he,ae=>by
  simp only[FE,e9] at h;simp at bL;subst bL;have:=(Array.all_eq_true_iff_forall_mem.1 h.1) e he
  simpa [ae] using this
 |J3::r,m,h,t+1,o,bL,e,he,ae=>by
  simp only[FE,e9] at h;have:=aed r (m+1) h.2 t o (by simpa using bL) e he ae;omega
theorem aee {c:List (List Nat)}(aF:TJ (wE c) ops l)(av:(D l)=ops.size)(he:FE 0 ops.toList=true):∀(r:List c6) (m:Nat) (rec:Rec) (st:ba) (eU:Array Bool),l.drop m=r->m+D r=(D l) ->
  eU.size=ops.size->(∀i,i<ops.size->eU.getD i true=decide (i<m))->(∀k,m<=k->rec k=none)->wv T K m r (c.drop m) rec st->FZ T (wE c) ops l K (D r) eU rec st
 | [],m,rec,st,eU,aa,hm,U,pS,Bl,h=>by
  refine⟨List.eq_nil_iff_forall_not_mem.2 λi J=>?_,h⟩;obtain⟨E,o,bL,_⟩:=mem_ready.1 J;have az:i<ops.size:=(Array.getElem?_eq_some_iff.1 bL).1;rw[pS i az] at E;simp at E hm;omega
 |x::r,m,rec,st,eU,aa,hm,U,pS,Bl,h=>by
  have az:m<ops.size:=by simp at hm;omega
  have bL:ops[m]?=some ops[m]:=Array.getElem?_eq_getElem az
  have O:l[m]?=some x:=by
   have:(l.drop m)[0]?=some x:=by rw[aa];rfl
   simpa using this
  have jH:=λ(j:Nat) (o:Oper) (ah:ops[j]?=some o)=>aed ops.toList 0 he j o (by simpa using ah)
  have ct:∀i,i<m->eU.getD i false=true:=λi J=>by
   have E:=pS i (by omega);rw[lU J] at E;have H:i<eU.size:=by omega
   simpa [H] using E
  have dM:Bk ops eU:=⟨U,λj o ah jm e pQ ae=>by
   have E:=jH j o ah e pQ ae;have pL:j<ops.size:=(Array.getElem?_eq_some_iff.1 ah).1
   have H:j<m:=by
    have:=pS j pL;have af:j<eU.size:=by omega
    simp[af] at jm this;rw[jm] at this
    simpa using this.symm
   exact ct _ (by omega)⟩
  have aqi:m∈Region.ready .any ops eU:=mem_ready.2 ⟨by rw[pS m az];simp,_,bL,λe pQ ae=>ct _ (by have:=jH m _ bL e pQ ae;omega)⟩
  have aqj:∀k,eU.getD k true=false->rec k=none:=λk M=>Bl k (by
   rcases ir k ops.size with cn|cn
   ·rw[pS k cn] at M
    simpa using M
   ·omega)
  have next:∀rp rq,x4 T (wE c) m x rec st rp rq->wv T K (m+1) r (c.drop m).tail rp rq->FZ T (wE c) ops l K (D r+1) eU rec st:=by
   intro rp rq hex M;refine aqa aF (aea c) O _ eU rec st rp rq dM aqj aqi hex (aee aF av he r (m+1) rp rq _ ?_ (by simp at hm;omega) (by simpa using U) (λi J=>?_) (λk M=>?_) ?_)
   ·rw[<-F6,aa]
    rfl
   ·by_cases him:m=i
    ·subst him;have:m<eU.size:=by omega
     simp[this]
    ·rw[getD_set_ne true him,pS i J]
     congr 1
     simp;omega
   ·rw[ad2 hex (by omega)];exact Bl k (by omega)
   ·rw[List.tail_drop] at M;exact M
  simp only[wv] at h
  split at h
  ·cases h
  ·rename_i g a9
   split at h
   ·rename_i gr;subst gr
    split at h
    ·rename_i cp e U;refine next _ _ (.inr ⟨a9,cp,e,U,λp q mG aO=>?_,rfl,rfl⟩) h.2
     have nW:p<m:=by
      rcases ir p m with cn|cn
      ·exact cn
      ·rw[Bl p cn] at aO;cases aO
     have TL:=h.1;unfold Fy at TL;rw[nq] at TL
     have gp:p∈(c.drop m).headD []:=by
      unfold wE at mG;rw[ab nW] at mG
      have:(c.drop m).headD []=c.getD m []:=by
       rw[List.headD_eq_head?_getD,List.head?_drop,dZ]
      rw[this];exact aec.1 mG
     have:=TL p gp;rw[aO] at this;exact this
    ·cases h
   ·rename_i aqk;have aql:g=false:=by simpa using aqk
    subst aql;exact next _ _ (.inl ⟨a9,rfl,rfl⟩) h
theorem J4 (h:fr A w B mem):fr (cb A B) w (λ_=>none) emp :=
 ⟨λ_ _=>rfl,λ_ _ _ _ _ h=>(by cases h),λb _ ⟨_,_,h,_⟩=>(by cases h),λb ae=>ae.elim (λcn=>h.xN cn) (h.lt b),λ_ _ _ h=>(by cases h)⟩
theorem zv (b:Nat):cb (cb A B) (λ_=>none) b↔cb A B b :=
 ⟨λh=>h.elim (fun⟨_,_,h,_⟩=>by cases h) id,.inr⟩
theorem aef {m:Q}{v:Value}(h:bq w (cb A B) B m v):bq w (cb (cb A B) λ_=>none) (λ_=>none) (ql m) v:=by
 cases h with
 |I h=>exact .I (h.less λb ae=>(zv b).1 ae)
 |nil=>exact .nil
 |fA av Y =>
  rename_i f eP vs
  cases eP with
  |nil=>exact .fA av λi d v h=>by simp at h
  |cons c r=>exact .undef
 |agg av Y =>
  rename_i cs vs;simp only[ql]
  cases G:cs.mapM u3 with
  |none=>exact .undef
  |some ds =>
   obtain⟨E,H⟩:=oG G;refine .I (.agg (av.trans E.symm) λi d v J ak=>?_);have az:i<D cs:=by have:=(dP.1 J).1;omega
   have jY:=bu az;exact (adk (H i _ d jY J) (Y i _ v jY ak)).less λb ae=>(zv b).1 ae
 |_=>exact .undef
theorem shut_list {ms:List Q}{vs:List Value}(h:dq w (cb A B) B ms vs):dq w (cb (cb A B) λ_=>none) (λ_=>none) (ms.map ql) vs:=by
 refine⟨by simpa using h.1,λi m v hm ak=>?_⟩
 rw[bh,dY] at hm;obtain⟨m',n2,rfl⟩:=hm;exact aef (h.2 i m' v n2 ak)
theorem Bi.less {w aQ:World}{aX mq:Nat->Prop}{sz:Nat}{es:List (List Data)}{v:Value}(av:∀b,mq b->aX b)(h:Bi w aQ aX sz es v):Bi w aQ mq sz es v:=by
 obtain⟨E,a,cap,H,af,aP,bt⟩:=h;refine⟨E,a,cap,H,af,aP,bt.imp id ?_⟩;rintro⟨b,vs,T,bU,bM,cf,jt,gu⟩;exact⟨b,vs,T,bU,bM,cf,jt,λi d Y=>let ⟨u,hu,tu⟩:=gu i d Y;⟨u,hu,tu.less λft kG=>kG.imp (av ft) id⟩⟩
theorem Dt {o:Oper}{c:Call}{f:FuncId}{a:Act}(bL:o.op=.call c)(mE:c.callee=.value (.func f))(mD:Real P f):(execOp a.eval o).run P w=.ok (.enter f (c.args.toList.map a.eval).toArray) w:=by
 obtain⟨dst,op,type,pos,after,guard⟩:=o;simp only at bL;subst bL;obtain⟨callee,zr,N9⟩:=c;simp only at mE;subst mE;simp only[execOp,resolve,Deferred.ofValue,Act.eval,invoke,Sem.run_bind,Sem.run_pure,Result.andThen_ok,N8 mD];rw[Bf zr];simp
theorem aeg {aX:Nat->Prop}{b off c sz len:Nat}{vs:Array Value}{T:TypeId}{ds:List Data}(aT:w.heap[b]?=some (.cells vs T (0,0)))(fJ:¬ aX b)(av:(D ds)=len*sz)(Oi:len<=c)(hm:len<=maxLen)(JN:off+len*sz<=vs.size)
  (Y:∀(i:Nat) (d:Data) (v:Value),ds[i]?=some d->vs[off+i]?=some v->Den w aX d v):Den w aX (.X (chunk sz len ds)) (.slice (some ⟨b,off,none⟩) len c):=by
 have dM:=N1 sz len ds
 have h:=Den.X (w:=w) (aX:=aX) (es:=chunk sz len ds) (b:=b) (off:=off) (c:=c) (sz:=sz) (λi=>vs.getD (off+i) undef) (by rw[dM];exact Oi) (by rw[dM];exact hm)
  (Array.getElem?_eq_some_iff.1 aT).1 fJ (N2 sz len ds av)
  (λi J=>by
   rw[dM] at J;rw[cell_of_row w b (off+i) vs T (0,0) aT];have:off+i<vs.size:=by omega
   simp[this])
  (λi d k2=>by
   rw[N3 sz len ds av] at k2;have az:i<D ds:=(dP.1 k2).1;have k7:off+i<vs.size:=by omega
   have:vs.getD (off+i) undef=vs[off+i]:=by simp[k7]
   simp only[this];exact Y i d _ k2 (Array.getElem?_eq_getElem k7))
 rw[dM] at h;exact h
theorem aqm {mem:Mem}{k g sz off len:Nat}{cs:List Q}{d:Data}(hm:mem k=some (g,cs))(h:JD sz off len cs=some d):cy 1 mem (.ref k g sz off len)=some d:=by
 have aW:∀(m:Q) (d:Data),u3 m=some d->cy 0 mem m=some d:=λm d h=>by
  unfold u3 at h
  split at h<;>simp_all [cy]
 have av:∀(l:List Q) (ds:List Data),l.mapM u3=some ds->l.mapM (cy 0 mem)=some ds:=by
  intro l
  induction l with
  |nil=>intro ds h;simpa using h
  |cons m l aA =>
   intro ds h;simp only[lz,hi,hy,er,cm] at h ⊢;obtain⟨x,O,Du,ha,rfl⟩:=h;exact⟨x,aW m x O,Du,aA Du ha,rfl⟩
 unfold JD at h
 split at h
 ·rename_i part aF;simp only[Ta,dY] at h;obtain⟨ds,ha,rfl⟩:=h;simp only[cy,hm,if_true,aF];rw[av _ _ ha]
  rfl
 ·cases h
theorem J5 {k:Key}{g sz off len:Nat}{cs:List Q}{d:Data}{v:Value}(b0:fr A w B mem)(M:mem k=some (g,cs))(Y:cy 1 mem (.ref k g sz off len)=some d)(ak:bq w (cb A B) B (.ref k g sz off len) v):
  Den w (cb A (gB B k ⟨bY mem k,none,0⟩)) d v:=by
 have fJ:∀b,cb A (gB B k ⟨bY mem k,none,0⟩) b->cb A B b:=λb h=>h.imp (fun⟨j,e,ah,O⟩=>by
  by_cases dX:j=k
  ·subst dX;rw[hx] at ah;cases ah;cases O
  ·rw[hh B _ dX] at ah;exact⟨j,e,ah,O⟩) id
 simp only[cy,M,if_true] at Y
 split at Y
 ·rename_i part TM;simp only[dY] at Y;obtain⟨ds,ha,rfl⟩:=Y;obtain⟨dM,rfl,nW⟩:=FJ TM;obtain⟨E,H⟩:=oG ha
  cases ak with
  |ref he hgle aa =>
   obtain⟨e,gz,b2,aH,ae⟩:=b0.at_ M;rw[gz] at he;obtain rfl:=pN he;obtain⟨a,cap,rfl,af,aP,bt⟩:=aa;rcases bt with bt|⟨b,rfl,bU⟩
   ·have:len=0:=by omega
    subst this;simp only[chunk];exact .lV
   ·obtain⟨bM,cf⟩:=bU b2.symm;obtain⟨vs,T,aT,aW,hle,bZ⟩:=ae b bM
    have aqn:¬ cb A (gB B k ⟨bY mem k,none,0⟩) b:=by
     rintro (⟨j,aB,ah,O⟩|aM)
     ·by_cases dX:j=k
      ·subst dX;rw[hx] at ah;cases ah;cases O
      ·rw[hh B _ dX] at ah;exact dX (b0.inj j k aB _ b ah gz O bM)
     ·exact b0.sep b aM ⟨k,_,gz,bM⟩
    refine aeg aT aqn (by omega) af (by omega) (by omega) λi x u O hu=>?_;have az:i<D ds:=(dP.1 O).1;have k7:off+i<D cs:=by omega
    have jY:((cs.drop off).take (len*sz))[i]?=some cs[off+i]:=by
     rw[pT (by omega),lB,bu k7]
    have vh:=H i _ x jY O
    have lA:bq w (cb A B) B cs[off+i] u:=bZ.2 (off+i) _ u (bu k7) (by
     rw[pT k7,Array.getElem?_toList];exact hu)
    generalize cs[off+i]=m at *
    cases m<;>simp only[cy,cm,reduceCtorEq] at vh
    ·subst vh
     cases lA with
     |I h=>exact h.less fJ
    ·subst vh
     cases lA;exact .lV
 ·cases Y
theorem aqo {mq:Nat->Prop}{bs:e5}(fJ:∀b,mq b->cb A B b){m:Q}{v:Value}(h:bq w (cb A B) B m v):bq w mq bs (ql m) v:=by
 have ao:=aef h;have aqp:∀b,mq b->cb (cb A B) (λ_=>none) b:=λb ae=>(zv b).2 (fJ b ae)
 have go:∀{m:Q},(∃d,m=.I d)\/m=.nil\/(∃f,m=.fA f [])\/m=.undef->bq w (cb (cb A B) λ_=>none) (λ_=>none) m v->bq w mq bs m v:=by
  intro m hm h;rcases hm with ⟨d,rfl⟩|rfl|⟨f,rfl⟩|rfl
  ·cases h with
   |I h=>exact .I (h.less aqp)
  ·cases h;exact .nil
  ·cases h with
   |fA av Y=>exact .fA av λi d v h=>by simp at h
  ·exact .undef
 refine go ?_ ao
 cases m<;>simp only[ql]
 case I d=>simp
 case nil=>simp
 case fA f eP=>cases eP<;>simp
 case agg cs=>split<;>simp
 all_goals simp
theorem aqq {k:Key}{g:Nat}{cs:List Q}(h:fr A w B mem)(M:mem k=some (g,cs))(Y:nU cs=true):
  fr (λb=>A b\/∃j e,j≠k/\B j=some e/\e.dz=some b) w (λj=>if j=k then B k else none) (a1 emp k g cs):=by
 have fJ:∀b,cb (λb=>A b\/∃j e,j≠k/\B j=some e/\e.dz=some b) (λj=>if j=k then B k else none) b->cb A B b:=λb ae=>by
  rcases ae with ⟨j,e,ah,O⟩|aM|⟨j,e,_,ah,O⟩
  ·by_cases dX:j=k
   ·subst dX;simp only[if_true] at ah;exact .inl ⟨_,e,ah,O⟩
   ·simp only[dX,if_false] at ah;cases ah
  ·exact .inr aM
  ·exact .inl ⟨j,e,ah,O⟩
 refine⟨λj ah=>?_,λj lW e e' b E H _ _=>?_,λb aM bL=>?_,λb ae=>?_,λj c0 nm ah=>?_⟩
 ·by_cases dX:j=k
  ·subst dX;simp[a1] at ah
  ·simp only[dX,if_false]
 ·by_cases ah:j=k<;>by_cases pL:lW=k
  ·rw[ah,pL]
  ·simp only[pL,if_false] at H;cases H
  ·simp only[ah,if_false] at E;cases E
  ·simp only[ah,if_false] at E;cases E
 ·obtain⟨j,e,ah,O⟩:=bL
  by_cases dX:j=k
  ·subst dX;simp only[if_true] at ah;rcases aM with aM|⟨lW,e',bI,pL,vh⟩
   ·exact h.sep b aM ⟨_,e,ah,O⟩
   ·exact bI (h.inj _ _ e' e b pL ah vh O)
  ·simp only[dX,if_false] at ah;cases ah
 ·rcases ae with ae|⟨j,e,_,ah,O⟩
  ·exact h.lt b ae
  ·exact h.xN ⟨j,e,ah,O⟩
 ·by_cases dX:j=k
  ·subst dX;simp only[a1,if_true,cm,fo] at ah;obtain⟨rfl,rfl⟩:=ah;obtain⟨e,he,a9,aH,ae⟩:=h.dz _ _ _ M;refine⟨e,by simp only[if_true];exact he,a9,aH,λb jU=>?_⟩
   obtain⟨vs,T,aT,aW,hle,aa⟩:=ae b jU;refine⟨vs,T,aT,aW,hle,λi m J=>?_⟩;obtain⟨v,ak,ve⟩:=aa i m J;refine⟨v,ak,?_⟩;unfold nU at Y;rw[nq] at Y;have hm:=Y m (eg J);rw[adv] at hm;obtain⟨d,hm⟩:=hm;unfold u3 at hm
   split at hm<;>cases hm
   ·cases ve with
    |I ve=>exact .I (ve.less fJ)
   ·cases ve;exact .nil
  ·simp only[a1,dX,if_false,emp] at ah;cases ah
theorem aqr {aQ:World}{k:Key}{u2:Nat->Prop}(h:fr A w B mem)(aqs:∀b,u2 b->∃e,B k=some e/\e.dz=some b)(f:Fr u2 w aQ):eH A w B aQ (gB B k ⟨bY mem k,none,0⟩) (a1 mem k (bY mem k) []) :=
 eH.change (e':=⟨bY mem k,none,0⟩) h ⟨f.os,f.tape,f.output,f.size,λb ae bL=>f.block b ae λO=>bL (aqs b O)⟩ (λe he => .inr (Dc h k e he)) (λb ae=>by simp at ae) (λ_=>rfl) (λb ae=>by simp at ae)
theorem aqt (cI:qx P T){a:Act}{st:ba}{o:Oper}{i:c6}{m:Q}{e:Option (Key×Nat×List Q)}(h:hO n A ew hz a st w B)(J:TD P n kb own ops o i)
  (U:hG T st.mem st.tm i.op=some (m,e)):o.wp P a w (λkI aQ=>∃bs,hO n A ew hz kI ⟨put st.tm i.dst m,iq st.mem e⟩ aQ bs) aL:=by
 have m0:=J.op
 have plain:cl st.mem st.tm i.op=some (m,e)->o.wp P a w (λkI aQ=>∃bs,hO n A ew hz kI ⟨put st.tm i.dst m,iq st.mem e⟩ aQ bs) aL:=by
  intro U
  have a0:jT P kb own o.dst o.type o.op=some i.op:=getD_some m0 (by
   intro ae;rw[ae] at U
   cases U)
  obtain⟨FY,v,aQ,bs,m2,hW,dy,ak⟩:=adB h.ok.dT h.tv a0 U;unfold Oper.wp;rw[m2,J.dst];have J0:=h.put dy ak J.lt;rcases hW with rfl|⟨rfl,rfl⟩
  ·exact⟨bs,J0⟩
  ·exact⟨bs,J0⟩
 cases tz:i.op with
 |call f args =>
  have a0:jT P kb own o.dst o.type o.op=some i.op:=getD_some m0 (by rw[tz];simp);rw[tz] at a0 U;obtain⟨c,G,mE,n0⟩:=adG a0;have bZ:=shut_list (x1 h.tv n0);rw[m4] at bZ;simp only[hG] at U
  split at U
  ·rename_i r ix
   cases U;obtain⟨mD,jH⟩:=cI f _ _ _ ix;have hH:=jH (cb A B) w (λ_=>none) _ (J4 h.ok.dT) bZ;unfold Oper.wp;rw[Dt G mE mD,J.dst];refine Calls.mono hH λe aQ he=>?_;obtain⟨v,rfl,bW,Y⟩:=he;exact⟨B,h.put (.still h.ok.dT bW) (.I (Y.less λb ae=>(zv b).2 ae)) J.lt⟩
  ·rename_i sz es ix
   cases U;obtain⟨mD,jH⟩:=cI f _ _ _ ix;have hH:=jH (cb A B) w (λ_=>none) _ (J4 h.ok.dT) bZ;unfold Oper.wp;rw[Dt G mE mD,J.dst];refine Calls.mono hH λe aQ he=>?_;obtain⟨v,rfl,bW,Y⟩:=he;exact⟨B,h.put (.still h.ok.dT bW) (.I ((Y.less λb ae=>(zv b).2 ae).den λb ae=>ae.elim (λcn=>h.ok.dT.xN cn) (h.ok.dT.lt b))) J.lt⟩
  ·cases U
 |oD k sz f args =>
  have a0:jT P kb own o.dst o.type o.op=some i.op:=getD_some m0 (by rw[tz];simp);rw[tz] at a0 U;obtain⟨c,G,mE,n0⟩:=adH a0;have bZ:=shut_list (x1 h.tv n0);rw[m4] at bZ;simp only[hG] at U
  split at U
  ·rename_i ev es ix
   split at U
   ·rename_i e4;subst e4
    cases U;obtain⟨mD,jH⟩:=cI f _ _ _ ix;have hH:=jH (cb A B) w (λ_=>none) _ (J4 h.ok.dT) bZ;unfold Oper.wp;rw[Dt G mE mD,J.dst];refine Calls.mono hH λe aQ he=>?_;obtain⟨v,rfl,bW,Y⟩:=he;obtain⟨bs,dy,ak⟩:=adF k h.ok.dT bW (Y.less λb ae=>(zv b).2 ae);exact⟨bs,h.put dy ak J.lt⟩
   ·cases U
  ·cases U
 |mv cx f args =>
  have a0:jT P kb own o.dst o.type o.op=some i.op:=getD_some m0 (by rw[tz];simp);rw[tz] at a0 U;obtain⟨c,G,mE,n0⟩:=apE a0;have bZ:=x1 h.tv n0;simp only[hG] at U;obtain⟨r,k,g,aJu,cc,cs,ix,hm,rfl,rfl,aK⟩:=adR U;obtain⟨mD,jH⟩:=cI f _ _ _ ix;have hH:=jH A w B _ h.ok.dT bZ;unfold Oper.wp;rw[Dt G mE mD,J.dst];refine Calls.mono hH λe aQ he=>?_;obtain⟨v,bs,rfl,dy,ak⟩:=he;refine⟨bs,?_⟩;have pd:rb st.mem k=cs:=by simp only[rb,hm]
  rw[pd] at dy;exact h.put dy ak J.lt
 |ti j f args =>
  have a0:jT P kb own o.dst o.type o.op=some i.op:=getD_some m0 (by rw[tz];simp);rw[tz] at a0 U;obtain⟨c,G,mE,n0⟩:=apF a0;have Bm:=x1 h.tv n0;simp only[hG] at U;obtain⟨k,g,sz,off,len,cs,d,r,O,hm,Y,aa,rfl,rfl⟩:=adP U;have ok:=eH.xV h.ok.dT k
  have az:j<(c.args.toList.map a.eval).length:=by
   rw[Bm.1];exact (dP.1 O).1
  have JO:=bu az;have tu:=J5 h.ok.dT hm (aqm hm Y) (Bm.2 j _ _ O JO);have Oj:=shut_list (Bm.q7 ok.mZ);rw[m4] at Oj
  have Ok:dq w (cb (cb A (gB B k ⟨bY st.mem k,none,0⟩)) λ_=>none) (λ_=>none) ((args.map (ql ∘ a3 st.tm)).set j (.I d)) (c.args.toList.map a.eval):=by
   refine⟨by rw[Oj.1,iY],λi m v E H=>?_⟩
   by_cases ic:j=i
   ·subst ic;rw[JO] at H
    cases H;have jm:j<(args.map (ql ∘ a3 st.tm)).length:=by rw[<-Oj.1];exact az
    rw[J6 jm] at E
    cases E;exact .I (tu.less λb ae=>(zv b).1 ae)
   ·rw[aeh ic] at E;exact Oj.2 i m v E H
  unfold NQ at aa
  split at aa
  ·rename_i FH ix
   cases aa;obtain⟨mD,jH⟩:=cI f _ _ _ ix;have hH:=jH (cb A (gB B k ⟨bY st.mem k,none,0⟩)) w (λ_=>none) _ (J4 ok.dT) Ok;unfold Oper.wp;rw[Dt G mE mD,J.dst];refine Calls.mono hH λe aQ he=>?_;obtain⟨v,rfl,bW,nn⟩:=he;exact⟨_,h.put (ok.trans (.still ok.dT bW)) (.I (nn.less λb ae=>(zv b).2 ae)) J.lt⟩
  ·rename_i ev es ix
   cases aa;obtain⟨mD,jH⟩:=cI f _ _ _ ix;have hH:=jH (cb A (gB B k ⟨bY st.mem k,none,0⟩)) w (λ_=>none) _ (J4 ok.dT) Ok;unfold Oper.wp;rw[Dt G mE mD,J.dst];refine Calls.mono hH λe aQ he=>?_;obtain⟨v,rfl,bW,nn⟩:=he;exact⟨_,h.put (ok.trans (.still ok.dT bW)) (.I ((nn.less λb ae=>(zv b).2 ae).den λb ae=>ae.elim (λcn=>ok.dT.xN cn) (ok.dT.lt b))) J.lt⟩
  ·cases aa
 |sb j f args =>
  have a0:jT P kb own o.dst o.type o.op=some i.op:=getD_some m0 (by rw[tz];simp);rw[tz] at a0 U;obtain⟨c,G,mE,n0⟩:=apG a0;have Bm:=x1 h.tv n0;simp only[hG] at U;obtain⟨k,g,sz,off,len,c0,cs,r,O,hm,Y,ix,rfl,rfl⟩:=adQ U;have b0:=aqq h.ok.dT hm Y
  have aqu:∀b,cb (λb=>A b\/∃j e,j≠k/\B j=some e/\e.dz=some b) (λj=>if j=k then B k else none) b->cb A B b:=λb ae=>by
   rcases ae with ⟨x6,e,ah,tA⟩|aM|⟨x6,e,_,ah,tA⟩
   ·by_cases dX:x6=k
    ·simp only[ab dX] at ah;exact .inl ⟨k,e,ah,tA⟩
    ·simp only[ag dX] at ah;cases ah
   ·exact .inr aM
   ·exact .inl ⟨x6,e,ah,tA⟩
  have az:j<(c.args.toList.map a.eval).length:=by
   rw[Bm.1];exact (dP.1 O).1
  have JO:=bu az
  have Ok:dq w (cb (λb=>A b\/∃j e,j≠k/\B j=some e/\e.dz=some b) (λj=>if j=k then B k else none)) (λj=>if j=k then B k else none) ((args.map λx=>ql (a3 st.tm x)).set j (.ref k g sz off len)) (c.args.toList.map a.eval):=by
   refine⟨by rw[Bm.1,iY,ai,ai],λi m v E H=>?_⟩
   by_cases ic:j=i
   ·subst ic
    have jm:j<(args.map λx=>ql (a3 st.tm x)).length:=by
     have:=(dP.1 O).1
     simpa using this
    rw[J6 jm] at E
    cases E;have ak:=Bm.2 j _ v O H
    cases ak with
    |ref he a9 aa=>exact .ref (by simp only[if_true];exact he) a9 aa
   ·rw[aeh ic,bh,dY] at E;obtain⟨y,ar,rfl⟩:=E;exact aqo aqu (Bm.2 i (a3 st.tm y) v (by rw[bh,ar];rfl) H)
  obtain⟨mD,jH⟩:=cI f _ _ _ ix;have hH:=jH _ w _ _ b0 Ok;unfold Oper.wp;rw[Dt G mE mD,J.dst];refine Calls.mono hH λe aQ he=>?_;obtain⟨v,A1,rfl,dy,ak⟩:=he;refine⟨_,h.put (aqr h.ok.dT (λb ae=>?_) dy.aE) ?_ J.lt⟩
  ·obtain⟨x6,e,ah,tA⟩:=ae
   by_cases dX:x6=k
   ·simp only[ab dX] at ah;exact⟨e,ah,tA⟩
   ·simp only[ag dX] at ah;cases ah
  ·cases ak with
   |I ak =>
    refine .I (ak.less λb ae=>?_);rcases ae with ⟨x6,e,ah,tA⟩|aM
    ·by_cases dX:x6=k
     ·rw[dX,hx] at ah;cases ah;cases tA
     ·rw[hh B _ dX] at ah;exact .inr (.inr ⟨x6,e,dX,ah,tA⟩)
    ·exact .inr (.inl aM)
 |jQ f args=>rw[tz] at U;cases U
 |q8 neg x=>rw[tz] at U;cases U
 |_=>exact plain (by rw[tz] at U ⊢;exact U)
theorem aei {α β:Type}{f:α->Option β}{xs:List α}{ys:List β}(h:xs.mapM f=some ys){i:Nat}{x:α}(O:xs[i]?=some x):∃y,ys[i]?=some y/\f x=some y:=by
 obtain⟨E,H⟩:=oG h;have az:i<D ys:=by rw[E];exact (dP.1 O).1
 exact⟨_,bu az,H i x _ O (bu az)⟩
theorem TN (cI:qx P T){jZ:Nat->Nat->Bool}(a0:ops.toList.mapM (A8 P n kb own ops)=some l)(e2:∀st a w B,K st->hO n A ew hz a st w B->aL .normal a w):
  ∀(fuel:Nat) (eU:Array Bool) (rec:Rec) (st:ba) (a:Act) (w:World) (B:e5),hO n A ew hz a st w B->FZ T jZ ops l K fuel eU rec st->wpAny P .any ops aL fuel eU a w
 |0,_,_,_,_,_,_,U,h=>⟨h.1,e2 _ _ _ _ h.2 U⟩
 |fuel+1,eU,rec,st,a,w,B,U,h=>by
  refine⟨λao=>e2 _ _ _ _ (h.1 ao) U,λi J=>?_⟩;obtain⟨x,zs,dO,O,hex,M⟩:=h.2 i J;obtain⟨_,o,bL,_⟩:=mem_ready.1 J;obtain⟨y,ar,TO⟩:=aei a0 (i:=i) (x:=o) (by simpa using bL);rw[O] at ar
  cases ar;have x7:=adI TO;unfold wpOp;simp only[bL];rcases hex with ⟨a9,rfl,rfl⟩|⟨a9,m,e,aqv,_,rfl,rfl⟩
  ·rw[TC U x7.guard a9,ag (by simp)];exact TN cI a0 e2 fuel _ _ _ _ _ B (by rw[x7.dst];exact U.put (.refl U.ok.dT) .no x7.lt) M
  ·rw[TC U x7.guard a9,ab rfl];refine .inl (Oper.wp_mono (λkI aQ ⟨bs,iX⟩=>TN cI a0 e2 fuel _ _ _ _ _ bs iX M) (aqt cI U x7 aqv))
theorem hO.drew {a:Act}{st:ba}(h:hO n A ew hz a st w B)(d:Nat):hO n A ew hz a st { w with drawn:=d } B:=by
 have U:eH A w B { w with drawn:=d } B st.mem:=.still h.ok.dT ((Fr.refl _ _).drew d);exact⟨h.ok.trans U,λs=>(h.tm s).q7 U.mZ,h.sz,h.JY⟩
theorem aqw (cI:qx P T)(hm:P.follows .mixedOrders=true){id:Nat}{a:Act}{st:ba}(a0:ops.toList.mapM (A8 P n kb own ops)=some l)(Y:FF ops l=true)(U:hO n A ew hz a st w B)
  (h:wv T K 0 l (zi [] l (qm ops.toList [])) (λ_=>none) st) (e2:∀st a w B,K st->hO n A ew hz a st w B->aL .normal a w):(Code.region id ops true).wp P aL a w:=by
 refine wp_region_any hm ?_
 have av:(D l)=ops.size:=by
  rw[(oG a0).1,Array.length_toList]
 have J7:=aee (aqh Y) av (by unfold FF at Y;rw[e9] at Y;exact Y.1) l 0 (λ_=>none) st (Array.replicate ops.size false) rfl (by simp) (by simp) (λi J=>by simp[J]) (λ_ _=>rfl) h;rw[av] at J7;exact TN cI a0 e2 ops.size _ _ _ _ _ B (U.drew _) J7
theorem TP (cI:qx P T)(a0:ops.toList.mapM (A8 P n kb own ops)=some l)(e2:∀st a w B,K st->hO n A ew hz a st w B->aL .normal a w):
  ∀(r:List c6) (m:Nat) (st:ba) (a:Act) (w:World) (B:e5),l.drop m=r->hO n A ew hz a st w B->xQ T K r st->wpOps P ops aL (List.range' m (D r)) a w
 | [],_,_,_,_,_,_,U,h=>e2 _ _ _ _ h U
 |x::r,m,st,a,w,B,aa,U,h=>by
  have O:l[m]?=some x:=by
   have:(l.drop m)[0]?=some x:=by rw[aa];rfl
   simpa using this
  have FP:l.drop (m+1)=r:=by rw[<-F6,aa];rfl
  have az:m<ops.size:=by
   have E:=(oG a0).1;have H:=(dP.1 O).1;simp at E;omega
  have bL:ops[m]?=some ops[m]:=Array.getElem?_eq_getElem az;obtain⟨y,ar,TO⟩:=aei a0 (i:=m) (x:=ops[m]) (by simp);rw[O] at ar
  cases ar;have x7:=adI TO;simp only[h8,List.range'_succ];rw[wpOps_cons];unfold wpOp;simp only[bL];simp only[xQ] at h
  split at h
  ·cases h
  ·rename_i g a9;rw[TC U x7.guard a9]
   cases g with
   |true =>
    simp only[if_true] at h ⊢;exact .inl (Oper.wp_mono (λkI aQ ⟨dO,bs,M,iX⟩=>TP cI a0 e2 r (m+1) dO kI aQ bs FP iX M) (apM cI U x7 h))
   |false =>
    simp only[k0,if_false] at h ⊢;exact TP cI a0 e2 r (m+1) _ _ _ B FP (U.put (.refl U.ok.dT) .no x7.lt) (by rw[<-x7.dst];exact h)
end Go.Mini
namespace Go.Mini
open Go
variable {A:Nat->Prop} {w:World} {B:e5} {mem:Mem}
theorem aej (b0:fr A w B mem){aX:Nat->Prop}(fJ:∀b,aX b->A b){k:Key}{e:mr}{b:Nat}(he:B k=some e)(ae:e.dz=some b):¬ aX b :=
 λh=>b0.sep b (fJ b h) ⟨k,e,he,ae⟩
theorem snap (b0:fr A w B mem){aX:Nat->Prop}(fJ:∀b,aX b->A b):∀(d:Nat) (m:Q) (v:Value) (r:Data),cy d mem m=some r->bq w (cb A B) B m v->Den w aX r v:=by
 have aek:∀(d:Data) (v:Value),bq w (cb A B) B (.I d) v->Den w aX d v:=λd v h=>by
  cases h with
  |I h=>exact h.less λb ae => .inr (fJ b ae)
 have Ol:∀v,bq w (cb A B) B .nil v->Den w aX (.X []) v:=λv h=>by
  cases h;exact .lV
 intro d
 induction d with
 |zero =>
  intro m v r h ak
  cases m<;>simp only[cy,cm,reduceCtorEq] at h
  ·subst h;exact aek _ _ ak
  ·subst h;exact Ol _ ak
 |succ d aA =>
  intro m v r h ak
  have lists:∀(cs:List Q) (vs:List Value) (ds:List Data),cs.mapM (cy d mem)=some ds->(D vs)=(D cs)->(∀(i:Nat) (x:Q) (u:Value),cs[i]?=some x->vs[i]?=some u->bq w (cb A B) B x u) ->
    (D vs)=D ds/\∀(i:Nat) (x:Data) (u:Value),ds[i]?=some x->vs[i]?=some u->Den w aX x u:=by
   intro cs vs ds ha av aa;obtain⟨E,H⟩:=oG ha;refine⟨by omega,λi x u O hu=>?_⟩
   have az:i<D cs:=by have:=(dP.1 O).1;omega
   have jY:=bu az;exact aA _ u x (H i _ x jY O) (aa i _ u jY hu)
  cases m<;>simp only[cy,cm,dY,reduceCtorEq] at h
  case I=>subst h;exact aek _ _ ak
  case nil=>subst h;exact Ol _ ak
  case ref k g sz off len =>
   split at h
   ·rename_i c0 cs M
    split at h
    ·rename_i a9;subst a9
     split at h
     ·rename_i part TM;simp only[dY] at h;obtain⟨ds,ha,rfl⟩:=h;obtain⟨dM,rfl,nW⟩:=FJ TM;obtain⟨E,H⟩:=oG ha
      cases ak with
      |ref he hgle aa =>
       obtain⟨e,gz,b2,aH,ae⟩:=b0.at_ M;rw[gz] at he
       cases he;obtain⟨a,cap,rfl,af,aP,bt⟩:=aa;rcases bt with bt|⟨b,rfl,bU⟩
       ·have:len=0:=by omega
        subst this;simp only[chunk];exact .lV
       ·obtain⟨bM,cf⟩:=bU b2.symm;obtain⟨vs,T,aT,aW,hle,bZ⟩:=ae b bM;refine aeg aT (aej b0 fJ gz bM) (by omega) af (by omega) (by omega) λi x u O hu=>?_;have az:i<D ds:=(dP.1 O).1;have k7:off+i<D cs:=by omega
        have jY:((cs.drop off).take (len*sz))[i]?=some cs[off+i]:=by
         rw[pT (by omega),lB,bu k7]
        refine aA _ u x (H i _ x jY O) (bZ.2 (off+i) _ u (bu k7) ?_);rw[pT k7,Array.getElem?_toList];exact hu
     ·cases h
    ·cases h
   ·cases h
  case ptr k g off =>
   split at h
   ·rename_i c0 cs M
    split at h
    ·rename_i a9;obtain⟨rfl,Tr⟩:=a9;simp only[dY] at h;obtain⟨ds,ha,rfl⟩:=h;obtain⟨E,H⟩:=oG ha
     cases ak with
     |ptr he hgle aa =>
      obtain⟨e,gz,b2,aH,ae⟩:=b0.at_ M;rw[gz] at he
      cases he;obtain⟨b,rfl,bU⟩:=aa;have bM:=bU b2.symm;obtain⟨vs,T,aT,aW,hle,bZ⟩:=ae b bM;rw[List.length_drop] at E;refine .ptr (λi=>vs.getD (off+i) undef) (Array.getElem?_eq_some_iff.1 aT).1 (aej b0 fJ gz bM) (λi J=>?_) λi x O=>?_
      ·rw[cell_of_row w b (off+i) vs T (0,0) aT];have:off+i<vs.size:=by omega
       simp[this]
      ·have az:i<D ds:=(dP.1 O).1;have k7:off+i<D cs:=by omega
       have J8:off+i<vs.size:=by omega
       have jY:(cs.drop off)[i]?=some cs[off+i]:=by
        rw[lB,bu k7]
       have hu:vs.getD (off+i) undef=vs[off+i]:=by simp[J8]
       rw[hu];refine aA _ _ x (H i _ x jY O) (bZ.2 (off+i) _ _ (bu k7) ?_);rw[pT k7,Array.getElem?_toList];exact Array.getElem?_eq_getElem J8
    ·cases h
   ·cases h
  case fA f cs =>
   obtain⟨ds,ha,rfl⟩:=h
   cases ak with
   |fA av Y=>obtain⟨E,H⟩:=lists _ _ _ ha av Y;exact .fn E H
  case agg cs =>
   obtain⟨ds,ha,rfl⟩:=h
   cases ak with
   |agg av Y=>obtain⟨E,H⟩:=lists _ _ _ ha av Y;exact .agg E H
  case cH cs =>
   obtain⟨ds,ha,rfl⟩:=h
   cases ak with
   |cH av Y=>obtain⟨E,H⟩:=lists _ _ _ ha av Y;exact .cH E H
theorem bq.shift {aX mq:Nat->Prop}{bs:e5}(fJ:∀b,mq b->aX b)(M:∀k e,B k=some e->∃e',bs k=some e'/\(e'=e\/e.g<e'.g)){m:Q}{v:Value}(h:bq w aX B m v):bq w mq bs m v:=by
 induction h with
 |I h=>exact .I (h.less fJ)
 |nil=>exact .nil
 | @ref k g sz off len e v he a9 ak =>
  obtain⟨e',gz,aT⟩:=M k e he;rcases aT with rfl|aT
  ·exact .ref gz a9 ak
  ·exact .ref gz (by omega) (ak.Jh (by omega))
 | @ptr k g off e v he a9 ak =>
  obtain⟨e',gz,aT⟩:=M k e he;rcases aT with rfl|aT
  ·exact .ptr gz a9 ak
  ·exact .ptr gz (by omega) (ak.Jh (by omega))
 |fA av Y aA=>exact .fA av aA
 |agg av Y aA=>exact .agg av aA
 |cH av Y aA=>exact .cH av aA
 |no=>exact .no
 |undef=>exact .undef
theorem kill_shut (b0:fr A w B mem){k:Key}{g:Nat}{cs:List Q}{e:mr}{b:Nat}(M:mem k=some (g,cs))(he:B k=some e)(ae:e.dz=some b):
  fr (λft=>A ft\/ft=b) w (gB B k ⟨bY mem k,none,0⟩) (kill mem k)/\(∀m v,bq w (cb A B) B m v->bq w (cb (λft=>A ft\/ft=b) (gB B k ⟨bY mem k,none,0⟩)) (gB B k ⟨bY mem k,none,0⟩) m v):=by
 have a9:=Dc b0 k e he
 have fJ:∀ft,cb (λft=>A ft\/ft=b) (gB B k ⟨bY mem k,none,0⟩) ft->cb A B ft:=λft h=>by
  rcases h with ⟨j,aB,ah,O⟩|h|rfl
  ·by_cases dX:j=k
   ·subst dX;rw[hx] at ah;cases ah;cases O
   ·rw[hh B _ dX] at ah;exact .inl ⟨j,aB,ah,O⟩
  ·exact .inr h
  ·exact .inl ⟨k,e,he,ae⟩
 have aqx:∀j aB,B j=some aB->∃e',gB B k ⟨bY mem k,none,0⟩ j=some e'/\(e'=aB\/aB.g<e'.g):=λj aB ah=>by
  by_cases dX:j=k
  ·subst dX;rw[he] at ah
   cases ah;exact⟨_,hx _ _ _,.inr a9⟩
  ·exact⟨aB,by rw[hh B _ dX];exact ah,.inl rfl⟩
 have shift:∀m v,bq w (cb A B) B m v->bq w (cb (λft=>A ft\/ft=b) (gB B k ⟨bY mem k,none,0⟩)) (gB B k ⟨bY mem k,none,0⟩) m v:=λm v h=>h.shift fJ aqx;refine⟨⟨λj ah=>?_,λj lW ay aB ft E H af aP=>?_,λft aM bL=>?_,λft aM=>?_,λj c0 nm ah=>?_⟩,shift⟩
 ·by_cases dX:j=k
  ·subst dX;simp[kill,a1] at ah
  ·rw[hh B _ dX];simp only[kill,a1,dX,if_false] at ah;exact b0.A2 j ah
 ·by_cases dX:j=k
  ·subst dX;rw[hx] at E;cases E;cases af
  ·by_cases hjk':lW=k
   ·subst hjk';rw[hx] at H;cases H;cases aP
   ·rw[hh B _ dX] at E;rw[hh B _ hjk'] at H;exact b0.inj j lW ay aB ft E H af aP
 ·obtain⟨j,aB,ah,O⟩:=bL
  by_cases dX:j=k
  ·subst dX;rw[hx] at ah;cases ah;cases O
  ·rw[hh B _ dX] at ah;rcases aM with aM|rfl
   ·exact b0.sep ft aM ⟨j,aB,ah,O⟩
   ·exact dX (b0.inj j k aB e ft ah he O ae)
 ·rcases aM with aM|rfl
  ·exact b0.lt ft aM
  ·exact b0.xN ⟨k,e,he,ae⟩
 ·by_cases dX:j=k
  ·subst dX;simp only[kill,a1,if_true,cm,fo] at ah;obtain⟨rfl,rfl⟩:=ah;exact⟨_,hx _ _ _,rfl,λ_=>rfl,λft kG=>by cases kG⟩
  ·simp only[kill,a1,dX,if_false] at ah;obtain⟨aB,E,H,af,aP⟩:=b0.dz j c0 nm ah;refine⟨aB,by rw[hh B _ dX];exact E,H,af,λft kG=>?_⟩
   obtain⟨vs,T,bt,bU,bM,cf⟩:=aP ft kG;exact⟨vs,T,bt,bU,bM,λi m hm=>let ⟨v,ak,aa⟩:=cf i m hm;⟨v,ak,shift m v aa⟩⟩
end Go.Mini
