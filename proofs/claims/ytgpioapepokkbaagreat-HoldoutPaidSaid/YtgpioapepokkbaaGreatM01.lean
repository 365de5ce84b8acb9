/- A part of the proof. -/
import Derived.Calls
import Derived.Still
import Derived.Below
import Derived.Laws.World
import Derived.Laws.Sem
import Derived.Laws.Entries
import Derived.Laws.Rows
import GoSem.ClaimData
import Derived.Laws.CopyRow
import Derived.Laws.MakeOwn
import Derived.Laws.Append
import Derived.Laws.AppendOwn
import Derived.Laws.Strings
import Derived.Laws.Strings2
import Derived.Laws.StructEq
import Derived.Laws.Slices
import Derived.Laws.Cells
import Derived.Attr
import Derived.LoopN
set_option linter.unusedSimpArgs false
set_option linter.unusedVariables false
set_option linter.defProp false
set_option maxRecDepth 100000
set_option maxHeartbeats 4000000
noncomputable section
open Bool renaming and_eq_true->eQ,false_eq_true->lD,false_or->rY,not_true->cF,or_eq_true->sP,true_or->qG
open Classical renaming choose->vD,choose_spec->oP
open List renaming all_cons->BZ,all_eq_true->ld,contains_iff_mem->aek,drop_drop->Hv,drop_eq_getElem_cons->iE,drop_eq_nil_of_le->j0,drop_set_of_lt->ub,drop_succ_cons->w7,drop_take->adn,eq_nil_of_length_eq_zero->tX,ext_getElem?->pY,flatten_cons->k5,foldl_cons->Hm,getD_eq_getElem?_getD->ei,getElem?_append->Hg,getElem?_append_left->sM,getElem?_append_right->rR,getElem?_cons_succ->yC,getElem?_cons_zero->xe,getElem?_drop->lE,getElem?_eq_getElem->bn,getElem?_eq_none->mB,getElem?_eq_some_iff->dK,getElem?_map->bo,getElem?_range->vt,getElem?_set_ne->WQ,getElem?_set_self->Hw,getElem?_take->zX,getElem?_take_of_lt->rZ,getElem?_toArray->adC,getElem_mem->nC,getElem_of_mem->Le,length->D,length_append->fO,length_cons->hQ,length_eq_one_iff->aey,length_map->ar,length_set->hL,length_take->gE,mapM_cons->kr,map_congr_left->mH,map_cons->eu,map_map->mK,mem_append->iF,mem_attach->aeE,mem_cons_self->gK,mem_flatMap->yE,mem_flatten->adE,mem_of_getElem?->dZ,mem_of_mem_take->D9,mem_zipIdx_iff_getElem?->aeg,nil_append->ik,range->dD,replicate->dH,replicate_succ->qC,take_append->D8,take_of_length_le->dt,take_succ_cons->vx,take_zero->l3
open Nat renaming add_assoc->qA,add_comm->zO,add_mul->qs,add_zero->nE,eq_or_lt_of_le->P6,eq_zero_or_pos->jG,le_mul_of_pos_right->Lf,le_refl->bM,le_trans->eZ,lt_asymm->aej,lt_of_lt_of_le->DV,lt_or_ge->iD,min_eq_left->oO,mul_le_mul_right->sN,one_mul->BJ,strongRecOn->Lq,sub_self->lf,succ_mul->vw,testBit_or->aec,zero_add->ks,zero_le->fy
open Option renaming bind_eq_bind->ho,bind_eq_some_iff->ek,bind_some->ng,getD_some->Hu,isSome_iff_exists->adF,map_eq_some_iff->dS,map_none->WG,map_some->iY,pure_def->hi
open Option.some renaming inj->mD,injEq->cl
open Prod.mk renaming injEq->e2
namespace Go.Mini
def bq {α:Sort _}{a:α}:a=a:=_root_.id rfl
def ab {c:Prop}{h:Decidable c}(H:c){α:Sort _}{t e:α}:ite c t e=t:=if_pos H
def ae {c:Prop}{h:Decidable c}(H:¬c){α:Sort _}{t e:α}:ite c t e=e:=if_neg H
def h2 {p:Prop}[inst:Decidable p](h:p):decide p=true:=decide_eq_true h
def lZ {p:Prop}[i:Decidable p](h:¬p):decide p=false:=decide_eq_false h
def cX {p:Prop}[inst:Decidable p](h:p:=by omega):decide p=true:=decide_eq_true h
def cA {p:Prop}[i:Decidable p](h:¬p:=by omega):decide p=false:=decide_eq_false h
open Go
abbrev Key:=Nat
inductive Data where
 |int (k:IntKind) (n:Int)
 |bool (b:Bool)
 |str (s:List UInt8)
 |ay (es:List (List Data))
 |ptr (cs:List Data)
 |vj
 |fn (f:FuncId) (eM:List Data)
 |tN
 |agg (cs:List Data)
 |cP (vs:List Data)
 deriving Inhabited
inductive O where
 |M (d:Data)
 |nil
 |ref (k:Key) (g sz off len:Nat)
 |ptr (k:Key) (g off:Nat)
 |fx (f:FuncId) (eM:List O)
 |agg (cs:List O)
 |cP (vs:List O)
 |no
 |undef
 deriving Inhabited
inductive Den (w:World) (a2:Nat->Prop):Data->Value->Prop
 |int {k:IntKind} {n:Int}:Den w a2 (.int k n) (.int k n)
 |bool {b:Bool}:Den w a2 (.bool b) (.bool b)
 |str {s:List UInt8}:Den w a2 (.str s) (.string ⟨s.toArray⟩)
 |l0 {a:Option Addr} {c:Nat}:Den w a2 (.ay []) (.slice a 0 c)
 |ay {es:List (List Data)} {b off c sz:Nat} (val:Nat->Value) (ak:(D es)<=c) (hm:(D es)<=maxLen) (ad:b<w.heap.size) (fN:¬ a2 b) (e6:∀e∈es,D e=sz)
   (H:∀i,i<D es*sz->w.cell? ⟨b,off+i,none⟩=some (val i)) (Y:∀i d,es.flatten[i]?=some d->Den w a2 d (val i)) :
   Den w a2 (.ay es) (.slice (some ⟨b,off,none⟩) (D es) c)
 |ptr {cs:List Data} {b off:Nat} (val:Nat->Value) (ad:b<w.heap.size) (fN:¬ a2 b)
   (H:∀i,i<(D cs)->w.cell? ⟨b,off+i,none⟩=some (val i)) (Y:∀i d,cs[i]?=some d->Den w a2 d (val i)) :
   Den w a2 (.ptr cs) (.pointer (some ⟨b,off,none⟩))
 |vj:Den w a2 .vj (.pointer none)
 |fn {f:FuncId} {eM:List Data} {vs:List Value} (ak:(D vs)=D eM) (Y:∀(i:Nat) (d:Data) (v:Value),eM[i]?=some d->vs[i]?=some v->Den w a2 d v) :
   Den w a2 (.fn f eM) (.func (.func f) #[] vs.toArray)
 |tN:Den w a2 .tN .nilFunc
 |agg {cs:List Data} {vs:List Value} (ak:(D vs)=D cs) (Y:∀(i:Nat) (d:Data) (v:Value),cs[i]?=some d->vs[i]?=some v->Den w a2 d v) :
   Den w a2 (.agg cs) (.agg vs.toArray)
 |cP {cs:List Data} {vs:List Value} (ak:(D vs)=D cs) (Y:∀(i:Nat) (d:Data) (v:Value),cs[i]?=some d->vs[i]?=some v->Den w a2 d v) :
   Den w a2 (.cP cs) (.tuple vs.toArray)
def PL {es:List (List Data)}{sz:Nat}(h:∀e∈es,D e=sz):(D es.flatten)=D es*sz:=by
 induction es with
 |nil=>simp
 |cons e r av =>
  have F:=h e (by simp);have G:=av (λx Q=>h x (by simp[Q]));rw[k5,fO,F,G,hQ,qs,BJ,zO]
def Den.rK {w aT:World}{a2 mv:Nat->Prop}(X:w.heap.size<=aT.heap.size)(h:∀b,b<w.heap.size->¬ a2 b->aT.heap[b]?=w.heap[b]?/\¬ mv b){d:Data}{v:Value}(Y:Den w a2 d v):Den aT mv d v:=by
 induction Y with
 |int=>exact .int
 |bool=>exact .bool
 |str=>exact .str
 |l0=>exact .l0
 | @ay es b off c sz val ak hm ad fN e6 H Y av =>
  obtain⟨F,G⟩:=h b ad fN;exact .ay val ak hm (by omega) G e6 (λi J=>(World.cell?_of_block (a:=⟨b,off+i,none⟩) F).trans (H i J)) av
 |vj=>exact .vj
 |tN=>exact .tN
 | @ptr cs b off val ad fN H Y av =>
  obtain⟨F,G⟩:=h b ad fN;exact .ptr val (by omega) G (λi J=>(World.cell?_of_block (a:=⟨b,off+i,none⟩) F).trans (H i J)) av
 |fn ak Y av=>exact .fn ak av
 |agg ak Y av=>exact .agg ak av
 |cP ak Y av=>exact .cP ak av
structure mw where
 g:Nat
 dr:Option Nat
 size:Nat
abbrev e7:=Key->Option mw
def sD (B:e7)(b:Nat):Prop:=∃k e,B k=some e/\e.dr=some b
def GV (e:mw)(g sz off len:Nat)(v:Value):Prop :=
 ∃a cap,v=.slice a len cap/\len<=cap/\cap<=maxLen/\(cap=0\/∃b,a=some ⟨b,off,none⟩/\(g=e.g->e.dr=some b/\off+cap*sz<=e.size))
def PM (e:mw)(g off:Nat)(v:Value):Prop:=∃b,v=.pointer (some ⟨b,off,none⟩)/\(g=e.g->e.dr=some b)
def GV.KD {e e':mw}{g sz off len:Nat}{v:Value}(h:GV e g sz off len v)(ak:g<e'.g):GV e' g sz off len v:=by
 obtain⟨a,cap,F,G,af,aS⟩:=h;refine⟨a,cap,F,G,af,aS.imp id ?_⟩;rintro⟨b,bt,_⟩;exact⟨b,bt,λh=>by omega⟩
def PM.KD {e e':mw}{g off:Nat}{v:Value}(h:PM e g off v)(ak:g<e'.g):PM e' g off v:=by
 obtain⟨b,F,_⟩:=h;exact⟨b,F,λh=>by omega⟩
inductive bp (w:World) (a2:Nat->Prop) (B:e7):O->Value->Prop
 |M {d:Data} {v:Value} (h:Den w a2 d v):bp w a2 B (.M d) v
 |nil {a:Option Addr}:bp w a2 B .nil (.slice a 0 0)
 |ref {k:Key} {g sz off len:Nat} {e:mw} {v:Value} (he:B k=some e) (a8:g<=e.g) (aA:GV e g sz off len v):bp w a2 B (.ref k g sz off len) v
 |ptr {k:Key} {g off:Nat} {e:mw} {v:Value} (he:B k=some e) (a8:g<=e.g) (aA:PM e g off v):bp w a2 B (.ptr k g off) v
 |fx {f:FuncId} {eM:List O} {vs:List Value} (ak:(D vs)=D eM) (Y:∀(i:Nat) (d:O) (v:Value),eM[i]?=some d->vs[i]?=some v->bp w a2 B d v) :
   bp w a2 B (.fx f eM) (.func (.func f) #[] vs.toArray)
 |agg {cs:List O} {vs:List Value} (ak:(D vs)=D cs) (Y:∀(i:Nat) (d:O) (v:Value),cs[i]?=some d->vs[i]?=some v->bp w a2 B d v) :
   bp w a2 B (.agg cs) (.agg vs.toArray)
 |cP {cs:List O} {vs:List Value} (ak:(D vs)=D cs) (Y:∀(i:Nat) (d:O) (v:Value),cs[i]?=some d->vs[i]?=some v->bp w a2 B d v) :
   bp w a2 B (.cP cs) (.tuple vs.toArray)
 |no:bp w a2 B .no undef
 |undef {v:Value}:bp w a2 B .undef v
def b4 (A:Nat->Prop)(B:e7)(b:Nat):Prop:=sD B b\/A b
structure Trans (A:Nat->Prop) (w:World) (B:e7) (aT:World) (br:e7):Prop where
 size:w.heap.size<=aT.heap.size
 KE:∀b,b<w.heap.size->¬ b4 A B b->aT.heap[b]?=w.heap[b]?/\¬ sD br b
 key:∀k e,B k=some e->∃e',br k=some e'/\(e'=e\/e.g<e'.g)
def Trans.refl (A:Nat->Prop)(w:World)(B:e7):Trans A w B w B :=
 ⟨bM _,λ_ _ h=>⟨rfl,λbx=>h (.inl bx)⟩,λ_ e he=>⟨e,he,.inl rfl⟩⟩
def Trans.trans {A:Nat->Prop}{w w1 n9:World}{B BK DU:e7}(h:Trans A w B w1 BK)(cj:Trans A w1 BK n9 DU):Trans A w B n9 DU:=by
 refine⟨eZ h.size cj.size,λb ad bx=>?_,λk e he=>?_⟩
 ·obtain⟨F,G⟩:=h.KE b ad bx;obtain⟨af,aS⟩:=cj.KE b (DV ad h.size) (λQ=>Q.elim G λaO=>bx (.inr aO));exact⟨af.trans F,aS⟩
 ·obtain⟨az,aqN,aX⟩:=h.key k e he;obtain⟨aD,fr,o8⟩:=cj.key k az aqN;refine⟨aD,fr,?_⟩;rcases aX with rfl|aX<;>rcases o8 with rfl|o8
  ·exact .inl rfl
  ·exact .inr o8
  ·exact .inr aX
  ·exact .inr (Nat.lt_trans aX o8)
def Den.trans {A:Nat->Prop}{w aT:World}{B br:e7}(t:Trans A w B aT br){d:Data}{v:Value}(h:Den w (b4 A B) d v):Den aT (b4 A br) d v :=
 h.rK t.size λb ad bx=>⟨(t.KE b ad bx).1,λQ=>Q.elim (t.KE b ad bx).2 λaO=>bx (.inr aO)⟩
def bp.rK {A:Nat->Prop}{w aT:World}{B br:e7}(t:Trans A w B aT br){m:O}{v:Value}(h:bp w (b4 A B) B m v):bp aT (b4 A br) br m v:=by
 induction h with
 |M h=>exact .M (h.trans t)
 |nil=>exact .nil
 | @ref k g sz off len e v he a8 aA =>
  obtain⟨e',gA,aX⟩:=t.key k e he;rcases aX with rfl|aX
  ·exact .ref gA a8 aA
  ·exact .ref gA (by omega) (aA.KD (by omega))
 | @ptr k g off e v he a8 aA =>
  obtain⟨e',gA,aX⟩:=t.key k e he;rcases aX with rfl|aX
  ·exact .ptr gA a8 aA
  ·exact .ptr gA (by omega) (aA.KD (by omega))
 |fx ak Y av=>exact .fx ak av
 |agg ak Y av=>exact .agg ak av
 |cP ak Y av=>exact .cP ak av
 |no=>exact .no
 |undef=>exact .undef
abbrev Mem:=Key->Option (Nat×List O)
def emp:Mem:=λ_=>none
def a4 (m:Mem)(k:Key)(g:Nat)(cs:List O):Mem:=λj=>if j=k then some (g,cs) else m j
def bQ (m:Mem)(k:Key):Nat:=match m k with
 |none=>0
 |some (g,_)=>g+1
structure fs (A:Nat->Prop) (w:World) (B:e7) (mem:Mem):Prop where
 BL:∀k,mem k=none->B k=none
 inj:∀k k' e e' b,B k=some e->B k'=some e'->e.dr=some b->e'.dr=some b->k=k'
 sep:∀b,A b->¬ sD B b
 lt:∀b,A b->b<w.heap.size
 dr:∀k g cs,mem k=some (g,cs)->∃e,B k=some e/\e.g=g/\(e.dr=none->cs=[]) /\
  ∀b,e.dr=some b->∃vs T,w.heap[b]?=some (.cells vs T (0,0))/\vs.size=e.size/\D cs<=vs.size /\
   ∀(i:Nat) (m:O),cs[i]?=some m->∃v,vs[i]?=some v/\bp w (b4 A B) B m v
def fs.w0 {A:Nat->Prop}{w:World}{B:e7}{mem:Mem}(h:fs A w B mem){b:Nat}(ad:sD B b):b<w.heap.size:=by
 obtain⟨k,e,he,ad⟩:=ad
 cases hm:mem k with
 |none=>rw[h.BL k hm] at he;cases he
 |some x =>
  obtain⟨g,cs⟩:=x;obtain⟨e',gA,_,_,aX⟩:=h.dr k g cs hm;rw[gA] at he
  cases he;obtain⟨vs,T,aA,_⟩:=aX b ad;exact (Array.getElem?_eq_some_iff.1 aA).1
structure Fr (vk:Nat->Prop) (dG w:World):Prop where
 os:w.os=dG.os
 tape:w.tape=dG.tape
 output:w.output=dG.output
 size:dG.heap.size<=w.heap.size
 block:∀g,g<dG.heap.size->¬ vk g->w.heap[g]?=dG.heap[g]?
def Fr.refl (vk:Nat->Prop)(w:World):Fr vk w w:=⟨rfl,rfl,rfl,bM _,λ_ _ _=>rfl⟩
def Fr.drew {vk:Nat->Prop}{dG w:World}(h:Fr vk dG w)(n:Nat):Fr vk dG { w with drawn:=n }:=⟨h.os,h.tape,h.output,h.size,h.block⟩
def Fr.alloc {vk:Nat->Prop}{dG w:World}(h:Fr vk dG w)(o:Obj):Fr vk dG (w.alloc o) :=
 ⟨h.os,h.tape,h.output,by simp;have:=h.size;omega,λg a8 fN=>(RowKit.Below.heap_alloc w o g (by have:=h.size;omega)).trans (h.block g a8 fN)⟩
def Fr.below {dG w:World}(h:Fr (λ_=>False) dG w):RowKit.Below dG.heap.size dG w:=⟨h.os,h.tape,h.output,h.size,λg a8=>h.block g a8 id⟩
inductive bI where
 |t (s:Nat)
 |c (m:O)
 deriving Inhabited
inductive jF where
 |jm (x:bI)
 |pick (c a b:bI)
 |alloc (k:Key) (z:List O)
 |box (k:Key) (x:bI)
 |build (z:List O) (parts:List (Nat×Nat×bI))
 |ff (k:Key) (own:Bool) (z:List O) (sz len:Nat) (parts:List (Nat×Nat×bI))
 |load (n:Nat) (dW:Bool) (x:bI)
 |store (n:Nat) (x v:bI)
 |bin (op:BinOp) (x y:bI)
 |beq (neg:Bool) (x y:bI)
 |eqs (neg:Bool) (g1:List Nat) (x y:bI)
 |qt (neg:Bool) (x:bI)
 |un (op:UnOp) (x:bI)
 |conv (k:IntKind) (x:bI)
 |sE (x:bI)
 |mx (k:Key) (z:List O) (bytes:Nat) (len cap:bI)
 |yo (off:Nat) (x:bI)
 |BM (off n:Nat) (dW:Bool) (x:bI)
 |qu (sz:Nat) (x i:bI)
 |o9 (len sz:Nat) (x i:bI)
 |idxs (x i:bI)
 |oI (sz:Nat) (x:bI) (bN J kq:Option bI)
 |tO (len sz:Nat) (x:bI) (bN J kq:Option bI)
 |DW (x:bI) (bN J:Option bI)
 |ext (i:Nat) (x:bI)
 |len (x:bI)
 |lens (x:bI)
 |app (k:Key) (z:List O) (bytes:Nat) (s x:bI)
 |sF (sz:Nat) (d x:bI)
 |iB (kq:Bool) (x y:bI)
 |call (f:FuncId) (args:List bI)
 |m8 (k:Key) (sz:Nat) (f:FuncId) (args:List bI)
 |jV (f:bI) (args:List bI)
 |my (bN:Nat) (f:FuncId) (args:List bI)
 |tP (j:Nat) (f:FuncId) (args:List bI)
 |sG (j:Nat) (f:FuncId) (args:List bI)
 |sH (z:List O) (x:bI)
 |pa (f:FuncId) (eM:List bI)
 |bad
 deriving Inhabited
structure cq where
 dst:Option Nat
 g:Option (Nat×Bool)
 op:jF
 deriving Inhabited
inductive PN where
 |oa (s:Nat) (k:Key) (sz:Nat)
 |PO (x:bI) (i:Nat) (k:Key) (sz:Nat)
 |freeze (s:Nat)
 |PQ (x:bI) (i:Nat)
 |move
 |many
 deriving Inhabited
inductive eh where
 |skip
 |ops (l:List cq)
 |mz (l:List cq) (c:List (List Nat))
 |seq (a b:eh)
 |cond (c:bI) (a b:eh)
 |block (id:Nat) (c:eh)
 |loop (c:eh)
 |exit (id:Nat)
 |ret
 |ghost (g:PN) (c:eh)
 deriving Inhabited
inductive oJ where
 |t (s:Nat)
 |cell (s n:Nat) (dW:Bool)
 deriving Inhabited
structure bu where
 n:Nat
 aqO:Nat
 res:List oJ
 body:eh
 deriving Inhabited
structure bc where
 tm:Nat->O
 mem:Mem
def eN (tm:Nat->O)(s:Nat)(m:O):Nat->O:=λt=>if t=s then m else tm t
def put (tm:Nat->O):Option Nat->O->Nat->O
 |some s,m=>eN tm s m
 |none,_=>tm
@[simp] def e8 (tm:Nat->O)(s:Nat)(m:O)(t:Nat):eN tm s m t=if t=s then m else tm t:=rfl
def a9 (tm:Nat->O):bI->O
 |.t s=>tm s
 |.c m=>m
def O.cells:O->List O
 |.agg cs=>cs
 |.M (.agg ds)=>ds.map .M
 |m=>[m]
def O.known:O->Bool
 |.undef=>false
 |_=>true
def O.one:O->Bool
 |.M (.agg _)=>false
 |.M (.cP _)=>false
 |.M _=>true
 |.nil=>true
 |.ref ..=>true
 |.ptr ..=>true
 |.fx ..=>true
 |_=>false
def rL (dW:Bool)(cs:List O):Option O :=
 if dW=true then some (.agg cs) else match cs with
  | [m]=>some m
  |_=>none
def cut (cs:List O)(off n:Nat):Option (List O) :=
 if off+n<=(D cs) then some ((cs.drop off).take n) else none
def k6 (cs:List O)(off:Nat)(new:List O):List O:=cs.take off++new++cs.drop (off+D new)
def kJ (a9:bI->O)(cells:List O):List (Nat×Nat×bI)->Option (List O)
 | []=>some cells
 |(off,size,x)::rest =>
  if (a9 x).known=true/\(a9 x).cells.length=size/\off+size<=(D cells) then kJ a9 (k6 cells off (a9 x).cells) rest else none
def vl:O->Option Data
 |.M d=>some d
 |.nil=>some (.ay [])
 |_=>none
def chunk (sz:Nat):Nat->List Data->List (List Data)
 |0,_=>[]
 |n+1,l=>l.take sz::chunk sz n (l.drop sz)
def PR (op:BinOp)(k:IntKind)(a b:Int):Option Data :=
 match op with
 |.add=>some (.int k (k.wrap (a+b)))
 |.sub=>some (.int k (k.wrap (a-b)))
 |.mul=>some (.int k (k.wrap (a*b)))
 |.quo=>if b=0 then none else some (.int k (k.wrap (a.tdiv b)))
 |.rem=>if b=0 then none else some (.int k (a.tmod b))
 |.and=>some (.int k (bits .and k a b))
 |.or=>some (.int k (bits .or k a b))
 |.xor=>some (.int k (bits .xor k a b))
 |.andNot=>some (.int k (bits .andNot k a b))
 |.eql=>some (.bool (a==b))
 |.neq=>some (.bool (a != b))
 |.lss=>some (.bool (a<b))
 |.leq=>some (.bool (a<=b))
 |.gtr=>some (.bool (a>b))
 |.geq=>some (.bool (a>=b))
 |_=>none
def PS (op:BinOp)(k:IntKind)(a b:Int):Option Data :=
 if b<0 then none else match op with
 |.shl=>some (.int k (k.wrap (a*2^(min b.toNat k.bits))))
 |.shr=>some (.int k (a.fdiv (2^(min b.toNat k.bits))))
 |_=>none
def PT (op:BinOp)(a b:List UInt8):Option Data :=
 match op with
 |.add=>if (D a)+D b<=maxLen then some (.str (a++b)) else none
 |.eql=>some (.bool (a==b))
 |.neq=>some (.bool (!(a==b)))
 |.lss=>some (.bool (Op.bytesLess a b))
 |.leq=>some (.bool (Op.bytesLess a b||a==b))
 |.gtr=>some (.bool (!(Op.bytesLess a b||a==b)))
 |.geq=>some (.bool (!Op.bytesLess a b))
 |_=>none
def GW:BinOp->Bool
 |.shl=>true
 |.shr=>true
 |_=>false
def KF (op:BinOp)(x y:O):Option O :=
 match x,y with
 |.M (.int k a),.M (.int k' b)=>if GW op=true then (PS op k a b).map .M else if k=k' then (PR op k a b).map .M else none
 |.M (.str a),.M (.str b)=>(PT op a b).map .M
 |_,_=>none
def KG (neg:Bool):O->O->Option O
 |.M (.bool a),.M (.bool b)=>some (.M (.bool (neg != (a==b))))
 |_,_=>none
def PU:Nat->O->O->Option Bool
 |0,.M (.bool a),.M (.bool b)=>some (a==b)
 |1,.M (.int k a),.M (.int k' b)=>if k=k' then some (a==b) else none
 |2,.M (.str a),.M (.str b)=>some (a==b)
 |_,_,_=>none
def BN:List Nat->List O->List O->Option Bool
 | [],[],[]=>some true
 |k::g1,a::x,b::y=>match PU k a b,BN g1 x y with
  |some c,some d=>some (c&&d)
  |_,_=>none
 |_,_,_=>none
def KH (op:UnOp)(x:O):Option O :=
 match op,x with
 |.neg,.M (.int k n)=>some (.M (.int k (k.wrap (0-n))))
 |.xor,.M (.int k n)=>some (.M (.int k (bits .xor k (if k.signed then -1 else k.max) n)))
 |.not,.M (.bool b)=>some (.M (.bool !b))
 |_,_=>none
def idx:O->Option Nat
 |.M (.int _ n)=>if 0<=n then some n.toNat else none
 |_=>none
def jW (d:Nat):Option O->Option Nat
 |none=>some d
 |some x=>idx x
def pb:O->Option Nat
 |.M (.ay es)=>some (D es)
 |.nil=>some 0
 |.ref _ _ _ _ n=>some n
 |_=>none
def pc (mem:Mem)(n:Nat)(dW:Bool):O->Option O
 |.ptr k g off=>match mem k with
  |some (cV,cs)=>if cV=g then (cut cs off n).bind (rL dW) else none
  |none=>none
 |.M (.ptr ds)=>(cut (ds.map .M) 0 n).bind (rL dW)
 |_=>none
def zP:O->Option Nat
 |.M (.str s)=>some (D s)
 |_=>none
def GX:O->O->O->Option O
 |.M (.bool t),a,b=>some (if t=true then a else b)
 |_,_,_=>none
def KI (z:List O)(sz len:Nat)(x:Option (List O)):Option O :=
 if (D z)=len*sz then (match x with
  |some cs=>(cs.mapM vl).map λds => .M (.ay (chunk sz len ds))
  |none=>none) else none
def KJ:O->Option (List O)
 |.agg cs=>some cs
 |.M (.agg ds)=>some (ds.map .M)
 |_=>none
def KK (neg:Bool)(g1:List Nat)(a b:O):Option O:=match KJ a,KJ b with
 |some x,some y=>(match BN g1 x y with
  |some c=>some (.M (.bool (neg != c)))
  |none=>none)
 |_,_=>none
def KL (k:IntKind):O->Option O
 |.M (.int _ n)=>some (.M (.int k (k.wrap n)))
 |_=>none
def KM:O->Option O
 |.ptr k g off=>some (.ptr k g off)
 |.M (.ptr ds)=>some (.M (.ptr ds))
 |_=>none
def KN (off:Nat):O->Option O
 |.ptr k g o=>some (.ptr k g (o+off))
 |.M (.ptr ds)=>if off<=(D ds) then some (.M (.ptr (ds.drop off))) else none
 |_=>none
def KO (off n:Nat)(dW:Bool):O->Option O
 |.agg cs=>(cut cs off n).bind (rL dW)
 |.M (.agg ds)=>(cut (ds.map .M) off n).bind (rL dW)
 |_=>none
def vm (sz n:Nat):O->Option O
 |.ref k g et off len=>if n<len/\et=sz then some (.ptr k g (off+n*sz)) else none
 |.M (.ay es)=>match es[n]? with
  |some e=>if (D e)=sz then some (.M (.ptr e)) else none
  |none=>none
 |_=>none
def KP (len sz n:Nat):O->Option O
 |.ptr k g off=>if n<len then some (.ptr k g (off+n*sz)) else none
 |.M (.ptr ds)=>if n<len/\n*sz<=(D ds) then some (.M (.ptr (ds.drop (n*sz)))) else none
 |_=>none
def KQ (n:Nat):O->Option O
 |.M (.str s)=>(s[n]?).map λb => .M (.int .u8 b.toNat)
 |_=>none
def pU (sz:Nat)(es:List (List Data)):Bool:=es.all λe=>D e==sz
def KR (sz l h:Nat):O->Option O
 |.M (.ay es)=>if l<=h/\h<=D es/\pU sz es=true then some (.M (.ay ((es.take h).drop l))) else none
 |.nil=>if l=0/\h=0 then some .nil else none
 |.ref k g et off len=>if et=sz/\l<=h/\h<=len then some (.ref k g sz (off+l*sz) (h-l)) else none
 |_=>none
def KS (sz l h m:Nat):O->Option O
 |.M (.ay es)=>if l<=h/\h<=m/\m<=D es/\pU sz es=true then (if m=l then some .nil else some (.M (.ay ((es.take h).drop l)))) else none
 |.nil=>if l=0/\h=0/\m=0 then some .nil else none
 |.ref _ _ _ _ len=>if l<=h/\h<=m/\m<=len/\m=l then some .nil else none
 |_=>none
def KT (l h:Nat):O->Option O
 |.M (.str s)=>if l<=h/\h<=(D s) then some (.M (.str ((s.take h).drop l))) else none
 |_=>none
def KU (i:Nat):O->Option O
 |.cP vs=>vs[i]?
 |.M (.cP ds)=>(ds[i]?).map .M
 |_=>none
def KV (kq:Bool):O->O->Option O
 |.M (.int k a),.M (.int k' b)=>if k=k' then some (.M (.int k (if kq=true then (if b>a then b else a) else (if b<a then b else a)))) else none
 |_,_=>none
def h3 (x:Option Nat)(f:Nat->Option O):Option O:=match x with
 |some n=>f n
 |none=>none
def k7 (tm:Nat->O):jF->Option O
 |.jm x=>some (a9 tm x)
 |.pick c a b=>GX (a9 tm c) (a9 tm a) (a9 tm b)
 |.build z parts=>(kJ (a9 tm) z parts).map .agg
 |.ff _ false z sz len parts=>KI z sz len (kJ (a9 tm) z parts)
 |.bin op x y=>KF op (a9 tm x) (a9 tm y)
 |.beq neg x y=>KG neg (a9 tm x) (a9 tm y)
 |.eqs neg g1 x y=>KK neg g1 (a9 tm x) (a9 tm y)
 |.un op x=>KH op (a9 tm x)
 |.conv k x=>KL k (a9 tm x)
 |.sE x=>KM (a9 tm x)
 |.yo off x=>KN off (a9 tm x)
 |.BM off n dW x=>KO off n dW (a9 tm x)
 |.qu sz x i=>h3 (idx (a9 tm i)) λn=>vm sz n (a9 tm x)
 |.o9 len sz x i=>h3 (idx (a9 tm i)) λn=>KP len sz n (a9 tm x)
 |.idxs x i=>h3 (idx (a9 tm i)) λn=>KQ n (a9 tm x)
 |.oI sz x bN J none=>h3 (jW 0 (bN.map (a9 tm))) λl=>h3 (pb (a9 tm x)) λlen=>h3 (jW len (J.map (a9 tm))) λh=>KR sz l h (a9 tm x)
 |.oI sz x bN (some J) (some kq)=>h3 (jW 0 (bN.map (a9 tm))) λl=>h3 (idx (a9 tm J)) λh=>h3 (idx (a9 tm kq)) λm=>KS sz l h m (a9 tm x)
 |.DW x bN J=>h3 (jW 0 (bN.map (a9 tm))) λl=>h3 (zP (a9 tm x)) λlen=>h3 (jW len (J.map (a9 tm))) λh=>KT l h (a9 tm x)
 |.ext i x=>KU i (a9 tm x)
 |.len x=>h3 (pb (a9 tm x)) λn=>some (.M (.int .i64 n))
 |.lens x=>h3 (zP (a9 tm x)) λn=>some (.M (.int .i64 n))
 |.iB kq x y=>KV kq (a9 tm x) (a9 tm y)
 |.pa f eM=>some (.fx f (eM.map (a9 tm)))
 |_=>none
def V8 (k:Key)(g off len sz l h:Nat):Option (Nat×List O)->Option O
 |some (cV,cs)=>if cV=g/\l<=h/\h<=len/\off+len*sz<=(D cs) then some (.ref k g sz (off+l*sz) (h-l)) else none
 |none=>none
def BO (mem:Mem)(len sz l h:Nat):O->Option O
 |.ptr k g off=>V8 k g off len sz l h (mem k)
 |_=>none
def qv (mem:Mem)(sz:Nat):O->Option (Nat×List O)
 |.M (.ay es)=>if pU sz es=true then some (D es,es.flatten.map O.M) else none
 |.nil=>some (0,[])
 |.ref k g et off len=>if et=sz then (match mem k with
  |some (cV,cs)=>if cV=g then (cut cs off (len*sz)).map λcs=>(len,cs) else none
  |none=>none) else none
 |_=>none
abbrev Out:=Option (O×Option (Key×Nat×List O))
def jn (x:Option O):Out:=match x with
 |some m=>some (m,none)
 |none=>none
def GY (k:Key)(g:Nat)(z:List O)(sz len:Nat)(x:Option (List O)):Out :=
 if (D z)=len*sz then (match x with
  |some cs=>some (.ref k g sz 0 len,some (k,g,cs))
  |none=>none) else none
def GZ (k:Key)(g:Nat)(z:List O)(bytes:Nat)(n c:Nat):Out :=
 if n=c/\bytes*n<=140737488355328/\n<=maxLen then some (.ref k g (D z) 0 n,some (k,g,(dH n z).flatten)) else none
def KW (x y:Option Nat)(f:Nat->Nat->Out):Out:=match x,y with
 |some n,some m=>f n m
 |_,_=>none
def KX (n:Nat)(k:Key)(g off:Nat)(v:List O)(x:Option (Nat×List O)):Out:=match x with
 |some (cV,cs)=>if cV=g/\D v=n/\off+n<=D cs/\v.all O.one=true then some (.no,some (k,g,k6 cs off v)) else none
 |none=>none
def yp (mem:Mem)(n:Nat):O->List O->Out
 |.ptr k g off,v=>KX n k g off v (mem k)
 |_,_=>none
def mA (k:Key)(g:Nat)(sz len bytes:Nat)(m:Nat)(new:List O)(x:Option (Nat×List O)):Out:=match x with
 |some (cV,cs)=>if cV=g/\len*sz<=D cs/\(len+m)*bytes<=140737488355328/\len+m<=maxLen/\new.all O.one=true
   then some (.ref k (g+1) sz 0 (len+m),some (k,g+1,cs.take (len*sz)++new)) else none
 |none=>none
def rM (mem:Mem)(k:Key)(z:List O)(bytes:Nat):O->Option (Nat×List O)->Out
 |.nil,some (m,new)=>if m*bytes<=140737488355328/\m<=maxLen/\new.all O.one=true then some (.ref k (bQ mem k) (D z) 0 m,some (k,bQ mem k,new)) else none
 |.ref k' g et off len,some (m,new)=>if et=D z/\off=0 then mA k' g et len bytes m new (mem k') else none
 |_,_=>none
def BP (k:Key)(g sz off len:Nat)(m:Nat)(new:List O)(x:Option (Nat×List O)):Out:=match x with
 |some (cV,cs)=>if cV=g/\off+len*sz<=D cs/\new.all O.one=true then some (.M (.int .i64 ((min m len:Nat):Int)),some (k,g,k6 cs off (new.take (min m len*sz)))) else none
 |none=>none
def w2 (mem:Mem)(sz:Nat):O->Option (Nat×List O)->Out
 |.ref k g et off len,some (m,new)=>if et=sz then BP k g sz off len m new (mem k) else none
 |_,_=>none
def PV (z:List O)(k:Key)(g off len:Nat)(x:Option (Nat×List O)):Out:=match x with
 |some (cV,cs)=>if cV=g/\off+len*D z<=D cs/\z.all O.one=true then some (.cP [],some (k,g,k6 cs off (dH len z).flatten)) else none
 |none=>none
def yq (mem:Mem)(z:List O):O->Out
 |.ref k g sz off len=>if sz=(D z) then PV z k g off len (mem k) else none
 |_=>none
def ck (mem:Mem)(tm:Nat->O):jF->Out
 |.alloc k z=>some (.ptr k (bQ mem k) 0,some (k,bQ mem k,z))
 |.box k x=>if (a9 tm x).known=true then some (.ptr k (bQ mem k) 0,some (k,bQ mem k,(a9 tm x).cells)) else none
 |.ff k true z sz len parts=>GY k (bQ mem k) z sz len (kJ (a9 tm) z parts)
 |.mx k z bytes len cap=>KW (idx (a9 tm len)) (idx (a9 tm cap)) (GZ k (bQ mem k) z bytes)
 |.load n dW x=>jn (pc mem n dW (a9 tm x))
 |.tO len sz x bN J none=>jn (h3 (jW 0 (bN.map (a9 tm))) λl=>h3 (jW len (J.map (a9 tm))) λh=>BO mem len sz l h (a9 tm x))
 |.store n x v=>yp mem n (a9 tm x) (a9 tm v).cells
 |.app k z bytes s x=>rM mem k z bytes (a9 tm s) (qv mem (D z) (a9 tm x))
 |.sF sz d x=>w2 mem sz (a9 tm d) (qv mem sz (a9 tm x))
 |.sH z x=>yq mem z (a9 tm x)
 |op=>jn (k7 tm op)
inductive gB where
 |same (r:Data)
 |own (sz:Nat) (es:List (List Data))
 |rel (bK:O->Mem->Prop)
 |eN (r:Data) (k:Key) (g i:Nat) (c:O)
 |zQ (r:Data) (k:Key)
abbrev ba:=FuncId->List O->Mem->Option gB
def ij (mem:Mem):Option (Key×Nat×List O)->Mem
 |none=>mem
 |some (k,g,cs)=>a4 mem k g cs
def rN (mem:Mem)(k:Key):List O:=match mem k with
 |some (_,cs)=>cs
 |none=>[]
def vn (T:ba)(K:bc->Prop)(st:bc)(dst:Option Nat)(f:FuncId)(args:List O):Prop :=
 match T f args st.mem with
 |some (.same r)=>K ⟨put st.tm dst (.M r),st.mem⟩
 |some (.own _ es)=>K ⟨put st.tm dst (.M (.ay es)),st.mem⟩
 |some (.rel bK)=>∀r mem',bK r mem'->K ⟨put st.tm dst r,mem'⟩
 |some (.eN r k g i c)=>K ⟨put st.tm dst (.M r),a4 st.mem k g ((rN st.mem k).set i c)⟩
 |some (.zQ r k)=>K ⟨put st.tm dst (.M r),a4 st.mem k (bQ st.mem k) []⟩
 |none=>False
def DX:O->Option Bool
 |.M (.ay es)=>some (!es.isEmpty)
 |.nil=>some false
 |.ref _ _ _ _ len=>some (decide (0<len))
 |_=>none
def gC (T:ba)(K:bc->Prop)(i:cq)(st:bc):Prop :=
 match i.op with
 |.call f args=>vn T K st i.dst f (args.map (a9 st.tm))
 |.m8 k sz f args=>match T f (args.map (a9 st.tm)) st.mem with
  |some (.own et es)=>if et=sz then K ⟨put st.tm i.dst (.ref k (bQ st.mem k) sz 0 (D es)),a4 st.mem k (bQ st.mem k) (es.flatten.map .M)⟩ else False
  |_=>False
 |.jV f args=>match a9 st.tm f with
  |.fx g eM=>vn T K st i.dst g (args.map (a9 st.tm)++eM)
  |.M (.fn g ds)=>vn T K st i.dst g (args.map (a9 st.tm)++ds.map .M)
  |_=>False
 |.qt neg x=>match DX (a9 st.tm x) with
  |some full=>∀b:Bool,(full=true->b=false)->K ⟨put st.tm i.dst (.M (.bool (neg != b))),st.mem⟩
  |none=>False
 |op=>match ck st.mem st.tm op with
  |some (m,e)=>K ⟨put st.tm i.dst m,ij st.mem e⟩
  |none=>False
def pd (tm:Nat->O):Option (Nat×Bool)->Option Bool
 |none=>some true
 |some (s,b)=>match tm s with
  |.M (.bool t)=>some (t==b)
  |.no=>some false
  |_=>none
def yr (T:ba)(K:bc->Prop):List cq->bc->Prop
 | [],st=>K st
 |i::r,st=>match pd st.tm i.g with
  |none=>False
  |some g=>if g=true then gC T (yr T K r) i st else yr T K r ⟨put st.tm i.dst .no,st.mem⟩
def keyOf:O->List Key
 |.ref k ..=>[k]
 |.ptr k ..=>[k]
 |_=>[]
inductive nA where
 |hA (k:Key)
 |rd (k:Key) (a b:Nat)
 |wr (k:Key) (i:Nat)
def nA.key:nA->Key
 |.hA k=>k
 |.rd k _ _=>k
 |.wr k _=>k
def rO:nA->nA->Bool
 |.hA k,.hA k' => !(k==k')
 |.hA k,.rd k' _ _ => !(k==k')
 |.rd k _ _,.hA k' => !(k==k')
 |.rd _ _ _,.rd _ _ _=>true
 |.rd k a b,.wr k' i => !(k==k')||(decide (i<a)||decide (b<=i))
 |.wr k' i,.rd k a b => !(k==k')||(decide (i<a)||decide (b<=i))
 |.wr _ _,.wr _ _=>false
 |.hA _,.wr _ _=>false
 |.wr _ _,.hA _=>false
def G0 (n:Nat):O->List nA
 |.ref k ..=>[.hA k]
 |.ptr k _ off=>[.rd k off (off+n)]
 |_=>[]
def KY (bN:Nat):List O->List nA
 |.ptr k _ off::_=>[.wr k (off+bN)]
 |_=>[]
def w3:Option O->List nA
 |some (.ref k ..)=>[.hA k]
 |_=>[]
def dC (tm:Nat->O):jF->List nA
 |.load n _ x=>G0 n (a9 tm x)
 |.tO _ _ x _ _ _=>(keyOf (a9 tm x)).map .hA
 |.store _ x _=>(keyOf (a9 tm x)).map .hA
 |.alloc k _=>[.hA k]
 |.box k _=>[.hA k]
 |.ff k true _ _ _ _=>[.hA k]
 |.mx k _ _ _ _=>[.hA k]
 |.m8 k _ _ _=>[.hA k]
 |.app k _ _ s x => .hA k::((keyOf (a9 tm s)).map .hA++(keyOf (a9 tm x)).map .hA)
 |.sF _ d x=>(keyOf (a9 tm d)).map .hA++(keyOf (a9 tm x)).map .hA
 |.my bN _ args=>KY bN (args.map (a9 tm))
 |.tP j _ args=>w3 (args.map (a9 tm))[j]?
 |.sG j _ args=>w3 (args.map (a9 tm))[j]?
 |.sH _ x=>(keyOf (a9 tm x)).map .hA
 |_=>[]
def jX:jF->Bool
 |.store ..=>true
 |.alloc ..=>true
 |.box ..=>true
 |.ff _ true _ _ _ _=>true
 |.mx ..=>true
 |.m8 ..=>true
 |.app ..=>true
 |.sF ..=>true
 |.my ..=>true
 |.tP ..=>true
 |.sG ..=>true
 |.sH ..=>true
 |_=>false
def qw:O->O
 |.M d => .M d
 |.nil => .nil
 |.fx f [] => .fx f []
 |.agg cs=>match cs.mapM vl with
  |some ds => .M (.agg ds)
  |none => .undef
 |_ => .undef
def G6 (bN:Nat)(mem:Mem):List O->Option gB->Option (O×Option (Key×Nat×List O))
 |.ptr k _ off::_,some (.eN r k' cV i c)=>match mem k with
  |some (g,cs)=>if k'=k/\cV=g/\i=off+bN then some (.M r,some (k,g,cs.set i c)) else none
  |none=>none
 |_,_=>none
def V9 (cs:List O):Option (List Data):=cs.mapM vl
def KZ (sz off len:Nat)(cs:List O):Option Data:=match cut cs off (len*sz) with
 |some part=>(V9 part).map λds => .ay (chunk sz len ds)
 |none=>none
def PW:Option gB->Option Data
 |some (.same r)=>some r
 |some (.own _ es)=>some (.ay es)
 |_=>none
def Wa (T:ba)(j:Nat)(f:FuncId)(ms:List O)(k:Key)(g sz off len:Nat):Option (Nat×List O)->Option (O×Option (Key×Nat×List O))
 |some (cV,cs)=>if cV=g then (match KZ sz off len cs with
  |some d=>(match PW (T f (ms.set j (.M d)) emp) with
   |some r=>some (.M r,some (k,cV+1,[]))
   |none=>none)
  |none=>none) else none
 |none=>none
def K0 (T:ba)(mem:Mem)(j:Nat)(f:FuncId)(ms:List O):Option O->Option (O×Option (Key×Nat×List O))
 |some (.ref k g sz off len)=>Wa T j f ms k g sz off len (mem k)
 |_=>none
def oK (cs:List O):Bool:=cs.all λm=>(vl m).isSome
def Wb (T:ba)(j:Nat)(f:FuncId)(ms:List O)(k:Key)(g sz off len:Nat):Option (Nat×List O)->Option (O×Option (Key×Nat×List O))
 |some (cV,cs)=>if oK cs=true then (match T f (ms.set j (.ref k g sz off len)) (a4 emp k cV cs) with
  |some (.zQ r k')=>if k'=k then some (.M r,some (k,cV+1,[])) else none
  |_=>none) else none
 |none=>none
def K1 (T:ba)(mem:Mem)(j:Nat)(f:FuncId)(ms:List O):Option O->Option (O×Option (Key×Nat×List O))
 |some (.ref k g sz off len)=>Wb T j f ms k g sz off len (mem k)
 |_=>none
def hB (T:ba)(mem:Mem)(tm:Nat->O):jF->Option (O×Option (Key×Nat×List O))
 |.call f args=>match T f (args.map λx=>qw (a9 tm x)) emp with
  |some (.same r)=>some (.M r,none)
  |some (.own _ es)=>some (.M (.ay es),none)
  |_=>none
 |.m8 k sz f args=>match T f (args.map λx=>qw (a9 tm x)) emp with
  |some (.own et es)=>if et=sz then some (.ref k (bQ mem k) sz 0 (D es),some (k,bQ mem k,es.flatten.map .M)) else none
  |_=>none
 |.jV ..=>none
 |.qt ..=>none
 |.my bN f args=>G6 bN mem (args.map (a9 tm)) (T f (args.map (a9 tm)) mem)
 |.tP j f args=>K0 T mem j f (args.map λx=>qw (a9 tm x)) (args.map (a9 tm))[j]?
 |.sG j f args=>K1 T mem j f (args.map λx=>qw (a9 tm x)) (args.map (a9 tm))[j]?
 |op=>ck mem tm op
abbrev Rec:=Nat->Option (Bool×List nA)
def rP (a b:Bool×List nA):Bool:=!(a.1||b.1)||a.2.all λx=>b.2.all λy=>rO x y
def G7 (rec:Rec)(p:Bool×List nA)(c:List Nat):Bool:=c.all λi=>match rec i with
 |none=>true
 |some q=>rP q p
def vo (rec:Rec)(n:Nat)(p:Bool×List nA):Rec:=λi=>if i=n then some p else rec i
def w4 (T:ba)(K:bc->Prop):Nat->List cq->List (List Nat)->Rec->bc->Prop
 |_,[],_,_,st=>K st
 |n,i::r,cs,rec,st=>match pd st.tm i.g with
  |none=>False
  |some g=>if g=true then (match hB T st.mem st.tm i.op with
    |some (m,e)=>G7 rec (jX i.op,dC st.tm i.op) (cs.headD [])=true/\w4 T K (n+1) r cs.tail (vo rec n (jX i.op,dC st.tm i.op)) ⟨put st.tm i.dst m,ij st.mem e⟩
    |none=>False) else w4 T K (n+1) r cs.tail rec ⟨put st.tm i.dst .no,st.mem⟩
inductive eT where
 |normal
 |exit (id:Nat)
 |ret
def b5:Nat->Mem->O->Option Data
 |_,_,.M d=>some d
 |_,_,.nil=>some (.ay [])
 |0,_,_=>none
 |n+1,mem,.ref k g sz off len=>match mem k with
  |some (cV,cs)=>if cV=g then (match cut cs off (len*sz) with
   |some part=>(part.mapM (b5 n mem)).map λds => .ay (chunk sz len ds)
   |none=>none) else none
  |none=>none
 |n+1,mem,.ptr k g off=>match mem k with
  |some (cV,cs)=>if cV=g/\off<=(D cs) then ((cs.drop off).mapM (b5 n mem)).map .ptr else none
  |none=>none
 |n+1,mem,.fx f cs=>(cs.mapM (b5 n mem)).map (.fn f)
 |n+1,mem,.agg cs=>(cs.mapM (b5 n mem)).map .agg
 |n+1,mem,.cP cs=>(cs.mapM (b5 n mem)).map .cP
 |_,_,.no=>none
 |_,_,.undef=>none
def kill (mem:Mem)(k:Key):Mem:=a4 mem k (bQ mem k) []
inductive sI (mem:Mem):Mem->Prop
 |PX (fP g6:Nat) (gP:List O) (i k g sz off len:Nat) (cs:List O) (k':Nat) (F:mem fP=some (g6,gP)) (G:gP[i]?=some (.ref k g sz off len)) (af:mem k=some (g,cs)) (aS:k≠fP) (bt:k'≠k) (b2:k'≠fP) :
   sI mem (a4 (a4 (a4 mem k (bQ mem k) []) k' (bQ mem k') cs) fP g6 (gP.set i (.ref k' (bQ mem k') sz off len)))
 |ac5 (fP g6:Nat) (gP:List O) (i k g off:Nat) (cs:List O) (k':Nat) (F:mem fP=some (g6,gP)) (G:gP[i]?=some (.ptr k g off)) (af:mem k=some (g,cs)) (aS:k≠fP) (bt:k'≠k) (b2:k'≠fP) :
   sI mem (a4 (a4 (a4 mem k (bQ mem k) []) k' (bQ mem k') cs) fP g6 (gP.set i (.ptr k' (bQ mem k') off)))
 |PY (fP g6:Nat) (gP:List O) (i k g sz off len:Nat) (cs:List O) (d:Data) (F:mem fP=some (g6,gP)) (G:gP[i]?=some (.ref k g sz off len)) (af:mem k=some (g,cs)) (aS:k≠fP) (bt:b5 1 mem (.ref k g sz off len)=some d) :
   sI mem (a4 (kill mem k) fP g6 (gP.set i (.M d)))
inductive tQ:Mem->Mem->Prop
 |refl (mem:Mem):tQ mem mem
 |step {mem K2 ac6:Mem} (h:sI mem K2) (cj:tQ K2 ac6):tQ mem ac6
def lC (K:bc->Prop)(st:bc):PN->Prop
 |.oa s k sz=>match st.tm s with
  |.nil=>K ⟨eN st.tm s (.ref k (bQ st.mem k) sz 0 0),a4 st.mem k (bQ st.mem k) []⟩
  |_=>False
 |.PO x i k sz=>match a9 st.tm x with
  |.ptr kc g off=>match st.mem kc with
   |some (cV,cs)=>if cV=g then (match cs[off+i]? with
    |some .nil=>if k≠kc then K ⟨st.tm,a4 (a4 st.mem k (bQ st.mem k) []) kc g (cs.set (off+i) (.ref k (bQ st.mem k) sz 0 0))⟩ else False
    |_=>False) else False
   |none=>False
  |_=>False
 |.freeze s=>match st.tm s with
  |.ref k g _ _ _=>match st.mem k with
   |some (cV,cs)=>if cV=g/\oK cs=true then (match b5 1 st.mem (st.tm s) with
    |some d=>K ⟨eN st.tm s (.M d),kill st.mem k⟩
    |none=>False) else False
   |none=>False
  |_=>False
 |.PQ x i=>match a9 st.tm x with
  |.ptr kc gc off=>match st.mem kc with
   |some (K3,cc)=>if K3=gc then (match cc[off+i]? with
    |some (.ref k g sz o len)=>match st.mem k with
     |some (cV,cs)=>if cV=g/\oK cs=true/\k≠kc then (match b5 1 st.mem (.ref k g sz o len) with
      |some d=>K ⟨st.tm,a4 (kill st.mem k) kc gc (cc.set (off+i) (.M d))⟩
      |none=>False) else False
     |none=>False
    |_=>False) else False
   |none=>False
  |_=>False
 |.move=>K st\/(∃fP g6 gP i k g sz off len cs k',st.mem fP=some (g6,gP)/\gP[i]?=some (.ref k g sz off len)/\st.mem k=some (g,cs)/\k≠fP/\k'≠k/\k'≠fP /\
   K ⟨st.tm,a4 (a4 (a4 st.mem k (bQ st.mem k) []) k' (bQ st.mem k') cs) fP g6 (gP.set i (.ref k' (bQ st.mem k') sz off len))⟩) \/
   ∃fP g6 gP i k g sz off len cs d,st.mem fP=some (g6,gP)/\gP[i]?=some (.ref k g sz off len)/\st.mem k=some (g,cs)/\oK cs=true/\k≠fP/\b5 1 st.mem (.ref k g sz off len)=some d /\
   K ⟨st.tm,a4 (kill st.mem k) fP g6 (gP.set i (.M d))⟩
 |.many=>∃mem',tQ st.mem mem'/\K ⟨st.tm,mem'⟩
def wp (T:ba):eh->(eT->bc->Prop)->bc->Prop
 |.skip,K,st=>K .normal st
 |.ops l,K,st=>yr T (K .normal) l st
 |.mz l c,K,st=>w4 T (K .normal) 0 l c (λ_=>none) st
 |.seq a b,K,st=>wp T a (λe dQ=>match e with
  |.normal=>wp T b K dQ
  |e=>K e dQ) st
 |.cond c a b,K,st=>match a9 st.tm c with
  |.M (.bool t)=>if t=true then wp T a K st else wp T b K st
  |_=>False
 |.block id c,K,st=>wp T c (λe dQ=>match e with
  |.exit j=>if j=id then K .normal dQ else K (.exit j) dQ
  |e=>K e dQ) st
 |.loop c,K,st=>∃(tR:bc->Prop) (μ:bc->Nat),tR st/\∀st,tR st->wp T c (λe dQ=>match e with
  |.normal=>tR dQ/\μ dQ<μ st
  |e=>K e dQ) st
 |.exit id,K,st=>K (.exit id) st
 |.ret,K,st=>K .ret st
 |.ghost g c,K,st=>lC (wp T c K) st g
def G8 (st:bc):oJ->Option O
 |.t s=>some (st.tm s)
 |.cell s n dW=>pc st.mem n dW (st.tm s)
def oL (st:bc)(l:List oJ):Option O :=
 match l.mapM (G8 st) with
 |some [m]=>some m
 |some ms=>some (.cP ms)
 |none=>none
def iC (args:List O):Nat->O:=λs=>match args[s]? with
 |some m=>m
 |none => .no
def K4:Value->Option O
 |.int k n=>some (.M (.int k n))
 |.bool b=>some (.M (.bool b))
 |.string s=>some (.M (.str s.data.toList))
 |.slice none 0 0=>some .nil
 |.pointer none=>some (.M .vj)
 |.nilFunc=>some (.M .tN)
 |_=>none
def Wc:Value->Option O
 |.agg cs=>(cs.toList.mapM K4).map .agg
 |v=>K4 v
def dI:Operand->Option bI
 |.tmp t=>some (.t t)
 |.const v=>(Wc v).map .c
 |.func f=>some (.c (.fx f []))
 |.global _=>none
def zeroOf (P:Program)(t:TypeId):Option (List O):=((P.info? t).bind (·.zero)).bind λz=>z.cells.toList.mapM K4
def gn (P:Program)(t:TypeId):Option Nat:=(P.info? t).map (·.size)
def G9 (P:Program)(t:TypeId):Option Nat:=(P.info? t).map (·.bytes)
def zR (P:Program)(t:TypeId):Option Bool:=(P.underlying t).map fun|.struct _=>true|.array _ _=>true|_=>false
def partsOf (place:Nat->Option (Nat×Nat))(l:List (Nat×Operand)):Option (List (Nat×Nat×bI)) :=
 l.mapM λ(i,x)=>do
  let (o,s) <-place i
  let y <-dI x
  pure (o,s,y)
def vp (P:Program)(dJ:Array Field)(i:Nat):Option (Nat×Nat):=do
 let f <-dJ[i]?
 let s <-gn P f.type
 pure (f.offset,s)
def K5 (P:Program)(t:TypeId):Option Nat :=
 match P.underlying t with
 |some .bool=>some 0
 |some (.int _)=>some 1
 |some .string=>some 2
 |_=>none
def Ha (P:Program):Nat->List Field->Option (List Nat)
 |_,[]=>some []
 | i, f :: r => if f.name ≠ "_" /\ f.offset = i then (match K5 P f.type, Ha P (i + 1) r with
  |some k,some g1=>some (k::g1)
  |_,_=>none) else none
def w5 (P:Program)(t:TypeId)(dJ:Array Field)(neg:Bool)(x y:Operand):Option jF :=
 if P.stoodInHeld t=false/\P.eqGuardType P.depth t=false then (match Ha P 0 dJ.toList,dI x,dI y with
  |some g1,some x,some y=>some (.eqs neg g1 x y)
  |_,_,_=>none) else none
def Wd:Operand->Bool
 |.const (.slice none 0 0)=>true
 |_=>false
def zS (P:Program)(op:BinOp)(t:TypeId)(x y:Operand):Option jF :=
 match P.underlying t with
 |some (.int _)=>match dI x,dI y with
  |some x,some y=>some (.bin op x y)
  |_,_=>none
 |some .string=>match dI x,dI y with
  |some x,some y=>some (.bin op x y)
  |_,_=>none
 |some .bool=>match op,dI x,dI y with
  |.eql,some x,some y=>some (.beq false x y)
  |.neq,some x,some y=>some (.beq true x y)
  |_,_,_=>none
 |some (.struct dJ)=>match op with
  |.eql=>w5 P t dJ false x y
  |.neq=>w5 P t dJ true x y
  |_=>none
 |some (.slice _)=>if Wd y=true then (match op with
  |.eql=>(dI x).map (.qt false)
  |.neq=>(dI x).map (.qt true)
  |_=>none) else none
 |_=>none
def tS:Option Operand->Option (Option bI)
 |none=>some none
 |some x=>(dI x).map some
def yt (P:Program)(kb:Nat)(own:List Nat)(dst:Option Nat)(type:TypeId)(c:Call):Option jF :=
 match c.callee,c.args.toList,c.argTypes.toList with
 |.builtin .len,[x],[t]=>match P.underlying t with
  |some (.slice _)=>(dI x).map .len
  |some .string=>(dI x).map .lens
  |_=>none
 |.builtin .append,[s,x],[t,u]=>match P.underlying t,P.underlying u with
  |some (.slice e),some (.slice _)=>do
   let z <-zeroOf P e
   let b <-G9 P e
   let n <-gn P e
   let d <-dst
   let s <-dI s
   let x <-dI x
   if (D z)=n/\0<n/\t=u then pure (.app (kb+d) z b s x) else none
  |_,_=>none
 |.builtin .copy,[d,x],[t,u]=>match P.underlying t,P.underlying u with
  |some (.slice e),some (.slice _)=>do
   let n <-gn P e
   if 0<n then pure (.sF n (<-dI d) (<-dI x)) else none
  |_,_=>none
 |.builtin .clear,[x],[t]=>match P.underlying t with
  |some (.slice e)=>do
   let z <-zeroOf P e
   let n <-gn P e
   if (D z)=n/\0<n then pure (.sH z (<-dI x)) else none
  |_=>none
 |.builtin .max,[x,y],_=>do pure (.iB true (<-dI x) (<-dI y))
 |.builtin .min,[x,y],_=>do pure (.iB false (<-dI x) (<-dI y))
 |.value (.func f),l,_=>if dst.any (λd=>own.contains d) then (match P.underlying type with
   |some (.slice e)=>do pure (.m8 (kb+(<-dst)) (<-gn P e) f (<-l.mapM dI))
   |_=>none) else match own.find? (λo=>decide (1000000<=o)&&dst==some (o%1000000)) with
   |some o=>if 1000000000000<=o then do pure (.sG (o/1000000000000-1) f (<-l.mapM dI)) else if 1000000000<=o then do pure (.tP (o/1000000000-1) f (<-l.mapM dI)) else do pure (.my (o/1000000-1) f (<-l.mapM dI))
   |none=>do pure (.call f (<-l.mapM dI))
 |.value f,l,_=>do pure (.jV (<-dI f) (<-l.mapM dI))
 |_,_,_=>none
def jY (P:Program)(kb:Nat)(own:List Nat)(dst:Option Nat)(type:TypeId):Op->Option jF
 |.move x=>(dI x).map .jm
 |.assign x=>(dI x).map .jm
 |.pick c a b=>do pure (.pick (<-dI c) (<-dI a) (<-dI b))
 |.alloc e=>do pure (.alloc (kb+(<-dst)) (<-zeroOf P e))
 |.box _ x=>do pure (.box (kb+(<-dst)) (<-dI x))
 |.build t ps=>match P.underlying t with
  |some (.struct dJ)=>if (dJ.toList.all λf=>(gn P f.type).isSome)=true then do pure (.build (<-zeroOf P t) (<-partsOf (vp P dJ) ps.toList)) else none
  |some (.array _ e)=>do
   let s <-gn P e
   pure (.build (<-zeroOf P t) (<-partsOf (λi=>some (i*s,s)) ps.toList))
  |_=>none
 |.buildSlice t len ps=>match P.underlying t with
  |some (.slice e)=>do
   let z <-zeroOf P e
   let s <-gn P e
   let ps <-partsOf (λi=>some (i*s,s)) ps.toList
   let d <-dst
   if (D z)=s/\0<s/\len*s<=16777216 then pure (.ff (kb+d) (own.contains d) ((dH len z).flatten) s len ps) else none
  |_=>none
 |.load t x=>do pure (.load (<-gn P t) (<-zR P t) (<-dI x))
 |.store t x v=>do pure (.store (<-gn P t) (<-dI x) (<-dI v))
 |.binOp op t x y _=>zS P op t x y
 |.unOp op _ x=>(dI x).map (.un op)
 |.nilCheck x=>(dI x).map .sE
 |.convert s t x=>match P.underlying s,P.underlying t with
  |some (.int _),some (.int k)=>(dI x).map (.conv k)
  |_,_=>none
 |.makeFunc (.func f) fst eM=>if fst.size=0 then do pure (.pa f (<-eM.toList.mapM dI)) else none
 |.makeSlice t l c=>match P.underlying t with
  |some (.slice e)=>do
   let z <-zeroOf P e
   let s <-gn P e
   let b <-G9 P e
   let d <-dst
   if (D z)=s/\0<s then pure (.mx (kb+d) z b (<-dI l) (<-dI c)) else none
  |_=>none
 |.slice t x bN J kq=>match P.underlying t with
  |some (.slice e)=>do
   let s <-gn P e
   if 0<s then pure (.oI s (<-dI x) (<-tS bN) (<-tS J) (<-tS kq)) else none
  |some (.array n e)=>do
   let s <-gn P e
   if 0<s/\n<=16777216 then pure (.tO n s (<-dI x) (<-tS bN) (<-tS J) (<-tS kq)) else none
  |some .string=>if kq.isNone then do pure (.DW (<-dI x) (<-tS bN) (<-tS J)) else none
  |_=>none
 |.fieldAddr t x f=>match P.underlying t with
  |some (.struct dJ)=>do
   let (o,s) <-vp P dJ f
   if 0<s then pure (.yo o (<-dI x)) else none
  |_=>none
 |.field t x f=>match P.underlying t with
  |some (.struct dJ)=>do
   let fd <-dJ[f]?
   let (o,s) <-vp P dJ f
   pure (.BM o s (<-zR P fd.type) (<-dI x))
  |_=>none
 |.indexAddr t x i=>match P.underlying t with
  |some (.slice e)=>do
   let s <-gn P e
   if 0<s then pure (.qu s (<-dI x) (<-dI i)) else none
  |some (.array n e)=>do
   let s <-gn P e
   if 0<s then pure (.o9 n s (<-dI x) (<-dI i)) else none
  |_=>none
 |.index t x i=>match P.underlying t with
  |some .string=>do pure (.idxs (<-dI x) (<-dI i))
  |_=>none
 |.extract x i=>(dI x).map (.ext i)
 |.call c=>yt P kb own dst type c
 |_=>none
def K6 (ops:Array Oper):Option (Nat×Bool)->Option (Option (Nat×Bool))
 |none=>some none
 |some (j,b)=>match (ops[j]?).bind (·.dst) with
  |some s=>some (some (s,b))
  |none=>none
def BQ (P:Program)(n kb:Nat)(own:List Nat)(ops:Array Oper)(o:Oper):Option cq :=
 match K6 ops o.guard with
 |some g=>if o.dst.all (λd=>decide (d<n))=true then some ⟨o.dst,g,(jY P kb own o.dst o.type o.op).getD .bad⟩ else none
 |_=>none
def sJ (m:jF):Nat:=match m with
 |.load ..=>1
 |.tO ..=>1
 |m=>if jX m=true then 2 else 0
def zT (a b:Nat):Bool:=a==0||b==0||(a==1&&b==1)
def fm:bI->List Nat
 |.t s=>[s]
 |.c _=>[]
def yu:Option bI->List Nat
 |some (.t s)=>[s]
 |_=>[]
def sK:jF->List Nat
 |.jm x=>fm x
 |.pick c a b=>fm c++fm a++fm b
 |.alloc _ _=>[]
 |.box _ x=>fm x
 |.build _ ps=>ps.flatMap λp=>fm p.2.2
 |.ff _ _ _ _ _ ps=>ps.flatMap λp=>fm p.2.2
 |.load _ _ x=>fm x
 |.store _ x v=>fm x++fm v
 |.bin _ x y=>fm x++fm y
 |.beq _ x y=>fm x++fm y
 |.eqs _ _ x y=>fm x++fm y
 |.qt _ x=>fm x
 |.un _ x=>fm x
 |.conv _ x=>fm x
 |.sE x=>fm x
 |.mx _ _ _ x y=>fm x++fm y
 |.yo _ x=>fm x
 |.BM _ _ _ x=>fm x
 |.qu _ x i=>fm x++fm i
 |.o9 _ _ x i=>fm x++fm i
 |.idxs x i=>fm x++fm i
 |.oI _ x a b c=>fm x++yu a++yu b++yu c
 |.tO _ _ x a b c=>fm x++yu a++yu b++yu c
 |.DW x a b=>fm x++yu a++yu b
 |.ext _ x=>fm x
 |.len x=>fm x
 |.lens x=>fm x
 |.app _ _ _ s x=>fm s++fm x
 |.sF _ s x=>fm s++fm x
 |.iB _ x y=>fm x++fm y
 |.call _ l=>l.flatMap fm
 |.m8 _ _ _ l=>l.flatMap fm
 |.jV f l=>fm f++l.flatMap fm
 |.my _ _ l=>l.flatMap fm
 |.tP _ _ l=>l.flatMap fm
 |.sG _ _ l=>l.flatMap fm
 |.sH _ x=>fm x
 |.pa _ l=>l.flatMap fm
 |.bad=>[]
def BR (i:cq):List Nat:=sK i.op++(match i.g with|some (s,_)=>[s]|none=>[])
def yv (x y:cq):Bool :=
 (
  match x.dst with
  |some d => !(BR y).contains d&&y.dst != some d
  |none=>true) &&
 (
  match y.dst with
  |some d => !(BR x).contains d
  |none=>true)
def qx:List Oper->List Nat->List Nat
 | [],acc=>acc
 |o::r,acc=>qx r (acc++[o.after.toList.foldl (λs e=>if Region.binds .any e=true then s ||| (2^e.on ||| acc.getD e.on 0) else s) 0])
def Hb:List cq->List cq->List Nat->Bool
 |_,[],_=>true
 |pre,c::cs,a::as=>(pre.zipIdx.all λ(p,i)=>a.testBit i||yv p c)&&Hb (pre++[c]) cs as
 |_,_::_,[]=>false
def Hc:Nat->List Oper->Bool
 |_,[]=>true
 |n,o::r=>(o.after.all λe => !Region.binds .any e||decide (e.on<n))&&Hc (n+1) r
def Hd (ops:Array Oper)(l:List cq):Bool:=Hc 0 ops.toList&&Hb [] l (qx ops.toList [])
def zU:List cq->List cq->List Nat->List (List Nat)
 |_,[],_=>[]
 |pre,c::cs,as=>((pre.zipIdx.filter λ(p,i) => !((as.headD 0).testBit i||zT (sJ p.op) (sJ c.op))).map (·.2))::zU (pre++[c]) cs as.tail
def qy (P:Program)(n kb:Nat)(own:List Nat):Code->Option eh
 |.skip=>some .skip
 |.region _ ops draw=>match ops.toList.mapM (BQ P n kb own ops) with
  |some l=>if draw=true then (if Hd ops l=true then some (.mz l (zU [] l (qx ops.toList []))) else none) else some (.ops l)
  |none=>none
 |.seq a b=>match qy P n kb own a,qy P n kb own b with
  |some x,some y=>some (.seq x y)
  |_,_=>none
 |.cond c a b=>match dI c,qy P n kb own a,qy P n kb own b with
  |some c,some x,some y=>some (.cond c x y)
  |_,_,_=>none
 |.block id c=>(qy P n kb own c).map (.block id)
 |.loop c=>(qy P n kb own c).map .loop
 |.exit id=>some (.exit id)
 |.ret=>some .ret
 |_=>none
def He (P:Program):ResultVar->Option oJ
 |.tmp t=>some (.t t)
 |.cell a t=>match gn P t,zR P t with
  |some s,some g=>some (.cell a s g)
  |_,_=>none
def qz (P:Program)(kb:Nat)(own:List Nat)(f:Func):Option bu :=
 match f.body with
 |none=>none
 |some c=>match qy P f.ntmps kb own c,f.results.toList.mapM (He P) with
  |some b,some r=>some { n:=f.ntmps,aqO:=f.params.size+f.nfree,res:=r,body:=b }
  |_,_=>none
structure eE (A:Nat->Prop) (w:World) (B:e7) (aT:World) (br:e7) (mem':Mem):Prop where
 dX:fs A aT br mem'
 m9:Trans A w B aT br
 aE:Fr (sD B) w aT
 fresh:∀b,sD br b->sD B b\/w.heap.size<=b
def eE.still {A:Nat->Prop}{w aT:World}{B:e7}{mem:Mem}(h:fs A w B mem)(f:Fr (λ_=>False) w aT):eE A w B aT B mem:=by
 have m9:Trans A w B aT B:=⟨f.size,λb ad bx=>⟨f.block b ad id,λQ=>bx (.inl Q)⟩,λ_ e he=>⟨e,he,.inl rfl⟩⟩;refine⟨⟨h.BL,h.inj,h.sep,λb ad=>DV (h.lt b ad) f.size,λk g cs hm=>?_⟩,m9,⟨f.os,f.tape,f.output,f.size,λb ad _=>f.block b ad id⟩,λb ad => .inl ad⟩;obtain⟨e,he,a8,aH,ad⟩:=h.dr k g cs hm;refine⟨e,he,a8,aH,λb jZ=>?_⟩;obtain⟨vs,T,F,G,af,aS⟩:=ad b jZ;have aq:b<w.heap.size:=(Array.getElem?_eq_some_iff.1 F).1;exact⟨vs,T,(f.block b aq id).trans F,G,af,λi m hm=>let ⟨v,aA,aa⟩:=aS i m hm;⟨v,aA,aa.rK m9⟩⟩
def eE.refl {A:Nat->Prop}{w:World}{B:e7}{mem:Mem}(h:fs A w B mem):eE A w B w B mem:=.still h (Fr.refl _ _)
def gD (B:e7)(k:Key)(e:mw):e7:=λj=>if j=k then some e else B j
def hn (B:e7)(k:Key)(e:mw):gD B k e k=some e:=by simp[gD]
def hh (B:e7){k j:Key}(e:mw)(h:j≠k):gD B k e j=B j:=by simp[gD,h]
section
variable {A:Nat->Prop} {w aT:World} {B:e7} {mem:Mem} {k:Key} {e':mw} {cs:List O}
def Trans.change (e6:w.heap.size<=aT.heap.size)
  (hold:∀b,b<w.heap.size->(∀e,B k=some e->e.dr≠some b)->aT.heap[b]?=w.heap[b]?)
  (a8:∀e,B k=some e->e'=e\/e.g<e'.g)
  (fQ:∀b,e'.dr=some b->w.heap.size<=b\/∃e,B k=some e/\e.dr=some b):Trans A w B aT (gD B k e'):=by
 refine⟨e6,λb ad bx=>⟨hold b ad λe he Q=>bx (.inl ⟨k,e,he,Q⟩),?_⟩,λj e he=>?_⟩
 ·rintro⟨j,e,he,Q⟩
  by_cases ag:j=k
  ·subst ag;rw[hn] at he
   cases he;rcases fQ b Q with F|⟨e,F,G⟩
   ·omega
   ·exact bx (.inl ⟨_,e,F,G⟩)
  ·rw[hh B e' ag] at he;exact bx (.inl ⟨j,e,he,Q⟩)
 ·by_cases ag:j=k
  ·subst ag;exact⟨e',hn _ _ _,a8 e he⟩
  ·exact⟨e,(hh B e' ag).trans he,.inl rfl⟩
def We (fQ:∀b,e'.dr=some b->w.heap.size<=b\/∃e,B k=some e/\e.dr=some b)(b:Nat)(h:sD (gD B k e') b):sD B b\/w.heap.size<=b:=by
 obtain⟨j,e,he,Q⟩:=h
 by_cases ag:j=k
 ·subst ag;rw[hn] at he
  cases he;rcases fQ b Q with F|⟨e,F,G⟩
  ·exact .inr F
  ·exact .inl ⟨_,e,F,G⟩
 ·rw[hh B e' ag] at he;exact .inl ⟨j,e,he,Q⟩
def fs.ac7 (h:fs A w B mem)(e6:w.heap.size<=aT.heap.size)
  (hold:∀b,b<w.heap.size->(∀e,B k=some e->e.dr≠some b)->aT.heap[b]?=w.heap[b]?)
  (a8:∀e,B k=some e->e'=e\/e.g<e'.g)
  (fQ:∀b,e'.dr=some b->w.heap.size<=b\/∃e,B k=some e/\e.dr=some b)
  (aH:e'.dr=none->cs=[])
  (H:∀b,e'.dr=some b->∃vs T,aT.heap[b]?=some (.cells vs T (0,0))/\vs.size=e'.size/\D cs<=vs.size /\
   ∀(i:Nat) (m:O),cs[i]?=some m->∃v,vs[i]?=some v/\bp aT (b4 A (gD B k e')) (gD B k e') m v):fs A aT (gD B k e') (a4 mem k e'.g cs):=by
 have m9:Trans A w B aT (gD B k e'):=Trans.change e6 hold a8 fQ;have fresh:=We (w:=w) fQ;refine⟨λj ag=>?_,λj l1 e aD b he fr ad eO=>?_,λb aO bx=>?_,λb ad=>DV (h.lt b ad) e6,λj g jo hm=>?_⟩
 ·by_cases dL:j=k
  ·subst dL;simp[a4] at ag
  ·simp only[a4,dL,if_false] at ag;rw[hh B e' dL];exact h.BL j ag
 ·by_cases dL:j=k<;>by_cases hjk':l1=k
  ·rw[dL,hjk']
  ·subst dL;rw[hn] at he
   cases he;rw[hh B e' hjk'] at fr;rcases fQ b ad with F|⟨e,F,G⟩
   ·have:=h.w0 ⟨l1,aD,fr,eO⟩;omega
   ·exact h.inj _ _ e aD b F fr G eO
  ·subst hjk';rw[hn] at fr
   cases fr;rw[hh B e' dL] at he;rcases fQ b eO with F|⟨bX,F,G⟩
   ·have:=h.w0 ⟨j,e,he,ad⟩;omega
   ·exact h.inj _ _ e bX b he F ad G
  ·rw[hh B e' dL] at he;rw[hh B e' hjk'] at fr;exact h.inj j l1 e aD b he fr ad eO
 ·rcases fresh b bx with F|F
  ·exact h.sep b aO F
  ·have:=h.lt b aO;omega
 ·by_cases dL:j=k
  ·subst dL;simp only[a4,if_true,cl,e2] at hm;obtain⟨rfl,rfl⟩:=hm;refine⟨e',hn _ _ _,rfl,aH,λb ad=>?_⟩;obtain⟨vs,T,F,G,af,aS⟩:=H b ad;exact⟨vs,T,F,G,af,aS⟩
  ·simp only[a4,dL,if_false] at hm;obtain⟨e,he,K7,aqP,kK⟩:=h.dr j g jo hm;refine⟨e,(hh B e' dL).trans he,K7,aqP,λb ad=>?_⟩;obtain⟨vs,T,F,G,af,aS⟩:=kK b ad;have aq:b<w.heap.size:=(Array.getElem?_eq_some_iff.1 F).1;have yw:aT.heap[b]?=w.heap[b]?:=hold b aq λbX af aS=>dL (h.inj j k e bX b he af ad aS);exact⟨vs,T,yw.trans F,G,af,λi m hm=>let ⟨v,aA,aa⟩:=aS i m hm;⟨v,aA,aa.rK m9⟩⟩
def fs.change (h:fs A w B mem)(e6:w.heap.size<=aT.heap.size)
  (hold:∀b,b<w.heap.size->(∀e,B k=some e->e.dr≠some b)->aT.heap[b]?=w.heap[b]?)
  (a8:∀e,B k=some e->e'=e\/e.g<e'.g)
  (fQ:∀b,e'.dr=some b->w.heap.size<=b\/∃e,B k=some e/\e.dr=some b)
  (aH:e'.dr=none->cs=[])
  (H:∀b,e'.dr=some b->∃vs T,aT.heap[b]?=some (.cells vs T (0,0))/\vs.size=e'.size/\D cs<=vs.size /\
   ∀(i:Nat) (m:O),cs[i]?=some m->∃v,vs[i]?=some v/\bp w (b4 A B) B m v):fs A aT (gD B k e') (a4 mem k e'.g cs) :=
 h.ac7 e6 hold a8 fQ aH λb ad=>by
  have m9:Trans A w B aT (gD B k e'):=Trans.change e6 hold a8 fQ;obtain⟨vs,T,F,G,af,aS⟩:=H b ad;exact⟨vs,T,F,G,af,λi m hm=>let ⟨v,aA,aa⟩:=aS i m hm;⟨v,aA,aa.rK m9⟩⟩
def eE.change (h:fs A w B mem)(f:Fr (λb=>∃e,B k=some e/\e.dr=some b) w aT)
  (a8:∀e,B k=some e->e'=e\/e.g<e'.g)
  (fQ:∀b,e'.dr=some b->w.heap.size<=b\/∃e,B k=some e/\e.dr=some b)
  (aH:e'.dr=none->cs=[])
  (H:∀b,e'.dr=some b->∃vs T,aT.heap[b]?=some (.cells vs T (0,0))/\vs.size=e'.size/\D cs<=vs.size /\
   ∀(i:Nat) (m:O),cs[i]?=some m->∃v,vs[i]?=some v/\bp w (b4 A B) B m v):eE A w B aT (gD B k e') (a4 mem k e'.g cs):=by
 have hold:∀b,b<w.heap.size->(∀e,B k=some e->e.dr≠some b)->aT.heap[b]?=w.heap[b]? :=
  λb ad Q=>f.block b ad fun⟨e,he,jZ⟩=>Q e he jZ
 exact⟨h.change f.size hold a8 fQ aH H,Trans.change f.size hold a8 fQ,⟨f.os,f.tape,f.output,f.size,λb ad bx=>f.block b ad fun⟨e,he,jZ⟩=>bx ⟨k,e,he,jZ⟩⟩,We fQ⟩
def DY (h:fs A w B mem)(k:Key)(e:mw)(he:B k=some e):e.g<bQ mem k:=by
 cases hm:mem k with
 |none=>rw[h.BL k hm] at he;cases he
 |some x =>
  obtain⟨g,cs⟩:=x;obtain⟨aD,F,G,_⟩:=h.dr k g cs hm;rw[F] at he
  cases he;simp[bQ,hm,G]
def eE.alloc (h:fs A w B mem)(w1:World)(f:Fr (λ_=>False) w w1)(aV:w1.heap.size=w.heap.size)(k:Key)(vs:Array Value)(T:TypeId)(ak:(D cs)<=vs.size)
  (H:∀(i:Nat) (m:O),cs[i]?=some m->∃v,vs[i]?=some v/\bp w (b4 A B) B m v) :
  eE A w B (w1.alloc (.cells vs T)) (gD B k ⟨bQ mem k,some w.heap.size,vs.size⟩) (a4 mem k (bQ mem k) cs):=by
 have f2:Fr (λ_=>False) w (w1.alloc (.cells vs T)):=f.alloc _;refine eE.change (e':=⟨bQ mem k,some w.heap.size,vs.size⟩) h ⟨f2.os,f2.tape,f2.output,f2.size,λb ad _=>f2.block b ad id⟩ (λe he => .inr (DY h k e he)) (λb ad => .inl ?_) (by simp) ?_
 ·simp at ad;omega
 ·intro b ad;simp at ad;subst ad;exact⟨vs,T,by rw[<-aV];exact heap_alloc_new w1 _,rfl,ak,H⟩
def eE.yx (h:fs A w B mem)(k:Key):eE A w B w (gD B k ⟨bQ mem k,none,0⟩) (a4 mem k (bQ mem k) []) :=
 eE.change (e':=⟨bQ mem k,none,0⟩) h ⟨rfl,rfl,rfl,bM _,λ_ _ _=>rfl⟩ (λe he => .inr (DY h k e he)) (λb ad=>by simp at ad) (λ_=>rfl) (λb ad=>by simp at ad)
end
def eE.trans {A:Nat->Prop}{w w1 n9:World}{B BK DU:e7}{dw cv:Mem}(h:eE A w B w1 BK dw)(cj:eE A w1 BK n9 DU cv):eE A w B n9 DU cv:=by
 refine⟨cj.dX,h.m9.trans cj.m9,⟨cj.aE.os.trans h.aE.os,cj.aE.tape.trans h.aE.tape,cj.aE.output.trans h.aE.output,eZ h.aE.size cj.aE.size,λb ad bx=>?_⟩,λb ad=>?_⟩
 ·have F:=h.aE.block b ad bx;refine (cj.aE.block b (DV ad h.aE.size) λQ=>?_).trans F;rcases h.fresh b Q with G|G
  ·exact bx G
  ·omega
 ·rcases cj.fresh b ad with F|F
  ·exact h.fresh b F
  ·exact .inr (eZ h.aE.size F)
def Wf {w:World}{a2:Nat->Prop}{B:e7}{v:Value}{m:O}(h:K4 v=some m):bp w a2 B m v:=by
 unfold K4 at h
 split at h<;>simp only[cl,reduceCtorEq] at h<;>subst h
 ·exact .M .int
 ·exact .M .bool
 ·rename_i s
  exact .M (by
   have:s=⟨s.data.toList.toArray⟩:=by simp
   rw[this]
   simpa using Den.str (s:=s.data.toList))
 ·exact .nil
 ·exact .M .vj
 ·exact .M .tN
def oM {α β:Type}{f:α->Option β}:∀{l:List α} {r:List β},l.mapM f=some r->(D r)=D l/\∀(i:Nat) (x:α) (y:β),l[i]?=some x->r[i]?=some y->f x=some y
 | [],r,h=>by
  simp at h;subst h;exact⟨rfl,λi x y F=>by simp at F⟩
 |a::l,r,h=>by
  simp only[kr,hi,ho,ek,cl] at h;obtain⟨b,ad,Hf,aa,rfl⟩:=h;obtain⟨F,G⟩:=oM aa;refine⟨by simp[F],λi x y Q al=>?_⟩
  cases i with
  |zero=>simp at Q al;subst Q;subst al;exact ad
  |succ i=>exact G i x y (by simpa using Q) (by simpa using al)
def aqQ {w:World}{a2:Nat->Prop}{B:e7}{v:Value}{m:O}(h:Wc v=some m):bp w a2 B m v:=by
 unfold Wc at h
 split at h
 ·rename_i cs;simp only[dS] at h;obtain⟨ms,aR,rfl⟩:=h;obtain⟨F,G⟩:=oM aR;have:=bp.agg (w:=w) (a2:=a2) (B:=B) (cs:=ms) (vs:=cs.toList) (by simp[F]) λi d v Y aA=>Wf (G i v d aA Y)
  simpa using this
 ·exact Wf h
section
variable {P:Program} {w:World} {a2:Nat->Prop} {B:e7}
def bp.yy {k:IntKind}{n:Int}{v:Value}(h:bp w a2 B (.M (.int k n)) v):v=.int k n:=by
 cases h with
 |M h=>cases h;rfl
def bp.DZ {b:Bool}{v:Value}(h:bp w a2 B (.M (.bool b)) v):v=.bool b:=by
 cases h with
 |M h=>cases h;rfl
def bp.D0 {s:List UInt8}{v:Value}(h:bp w a2 B (.M (.str s)) v):v=.string ⟨s.toArray⟩:=by
 cases h with
 |M h=>cases h;rfl
def bp.ofInt {k:IntKind}{n:Int}:bp w a2 B (.M (.int k n)) (.int k n):=.M .int
def aqR {op:BinOp}{k:IntKind}{a b:Int}{d:Data}(t:TypeId)(X:GW op=false)(h:PR op k a b=some d):
  ∃v,(binOp op t (.int k a) (.int k b)).run P w=.ok v w/\Den w a2 d v:=by
 cases op<;>simp only[PR,cl,reduceCtorEq] at h<;>simp only[GW,Bool.true_eq_false] at X
 case quo =>
  split at h
  ·cases h
  ·rename_i ad
   cases h;exact⟨_,by simp[go_sem,Op.intDiv,ad],.int⟩
 case rem =>
  split at h
  ·cases h
  ·rename_i ad
   cases h;exact⟨_,by simp[go_sem,Op.intDiv,ad],.int⟩
 all_goals
  subst h
  first
   |exact⟨_,by simp[go_sem,Op.intArith],.int⟩
   |exact⟨_,by simp[go_sem],.int⟩
   |exact⟨_,by simp[go_sem],.bool⟩
def aqS {op:BinOp}{k k':IntKind}{a b:Int}{d:Data}(t:TypeId)(X:GW op=true)(h:PS op k a b=some d):
  ∃v,(binOp op t (.int k a) (.int k' b)).run P w=.ok v w/\Den w a2 d v:=by
 unfold PS at h
 split at h
 ·cases h
 ·rename_i ad
  cases op<;>simp only[GW,lD] at X
  ·simp only[cl] at h;subst h;exact⟨.int k _,by simp[binOp,Op.shift,ad],.int⟩
  ·simp only[cl] at h;subst h;exact⟨.int k _,by simp[binOp,Op.shift,ad],.int⟩
def PZ {op:BinOp}{t:TypeId}{x y:Operand}{u v:Value}(F:u ≠ .nilIface)(G:∀c,u ≠ .agg c):eqGuard op t x y u v=pure ():=by
 unfold eqGuard
 cases op<;>cases u<;>first|rfl|exact absurd rfl F|exact absurd rfl (G _)
def aqT {op:BinOp}{a b:List UInt8}{d:Data}(t:TypeId)(h:PT op a b=some d):
  ∃v,(binOp op t (.string ⟨a.toArray⟩) (.string ⟨b.toArray⟩)).run P w=.ok v w/\Den w a2 d v:=by
 have aqU:binOp op t (.string ⟨a.toArray⟩) (.string ⟨b.toArray⟩)=Op.stringOp op ⟨a.toArray⟩ ⟨b.toArray⟩:=by
  cases op<;>rfl
 rw[aqU]
 cases op<;>simp only[PT,cl,reduceCtorEq] at h
 case add =>
  split at h
  ·rename_i ak
   cases h;refine⟨.string ⟨(a++b).toArray⟩,?_,.str⟩;have P0:¬ (9223372036854775807<(D a:Int)+(D b:Int)):=by unfold maxLen at ak;omega
   have az:(ByteArray.mk a.toArray).size=D a:=by simp[ByteArray.size]
   have aD:(ByteArray.mk b.toArray).size=D b:=by simp[ByteArray.size]
   have zV:(ByteArray.mk a.toArray)++(ByteArray.mk b.toArray)=⟨(a++b).toArray⟩:=by
    apply ByteArray.ext;simp
   simp[Op.stringOp,az,aD,P0,zV]
  ·cases h
 all_goals
  subst h;exact⟨_,by simp[Op.stringOp],.bool⟩
def ac8 {op:BinOp}{m n r:O}{u v:Value}(t:TypeId)(x y:Operand)(hm:bp w a2 B m u)(aH:bp w a2 B n v)(h:KF op m n=some r):
  ∃z,((do eqGuard op t x y u v;binOp op t u v:Sem Value)).run P w=.ok z w/\bp w a2 B r z:=by
 unfold KF at h
 split at h
 ·rename_i k a k' b
  cases hm.yy
  cases aH.yy;rw[PZ (by simp) (by simp)]
  split at h
  ·rename_i X;simp only[dS] at h;obtain⟨d,Y,rfl⟩:=h;obtain⟨z,F,G⟩:=aqS (P:=P) (w:=w) (a2:=a2) (k':=k') t X Y;exact⟨z,by simpa using F,.M G⟩
  ·rename_i X
   split at h
   ·rename_i I;subst I;simp only[dS] at h;obtain⟨d,Y,rfl⟩:=h;obtain⟨z,F,G⟩:=aqR (P:=P) (w:=w) (a2:=a2) t (by simpa using X) Y;exact⟨z,by simpa using F,.M G⟩
   ·cases h
 ·rename_i a b
  cases hm.D0
  cases aH.D0;rw[PZ (by simp) (by simp)];simp only[dS] at h;obtain⟨d,Y,rfl⟩:=h;obtain⟨z,F,G⟩:=aqT (P:=P) (w:=w) (a2:=a2) t Y;exact⟨z,by simpa using F,.M G⟩
 ·cases h
def ac9 {neg:Bool}{m n r:O}{u v:Value}(t:TypeId)(x y:Operand)(bz:P.underlying t=some .bool)(hm:bp w a2 B m u)(aH:bp w a2 B n v)(h:KG neg m n=some r):
  ∃z,((do eqGuard (if neg then .neq else .eql) t x y u v;binOp (if neg then .neq else .eql) t u v:Sem Value)).run P w=.ok z w/\bp w a2 B r z:=by
 unfold KG at h
 split at h
 ·rename_i a b
  cases hm.DZ
  cases aH.DZ
  cases h;rw[PZ (by simp) (by simp)]
  cases neg
  ·exact⟨.bool (a==b),by simp[run_eql_bool w t a b bz],by cases a<;>cases b<;>exact .M .bool⟩
  ·exact⟨.bool (!(a==b)),by simp[run_neq_bool w t a b bz],by cases a<;>cases b<;>exact .M .bool⟩
 ·cases h
def aqV {t:TypeId}{k:Nat}{m n:O}{c:Bool}{u v:Value}(d:Nat)(I:K5 P t=some k)(hm:bp w a2 B m u)(aH:bp w a2 B n v)(h:PU k m n=some c):
  (Op.equalIn (d+1) t u v).run P w=.ok c w:=by
 unfold K5 at I;unfold PU at h
 split at h
 ·simp only[cl] at h
  cases hm.DZ
  cases aH.DZ;subst h
  split at I<;>first|(exfalso;simp at I;done)|(rename_i hu;exact run_equalIn_bool w d t _ _ hu)
 ·split at h
  ·rename_i D3;subst D3
   cases hm.yy
   cases aH.yy
   cases h
   split at I<;>first|(exfalso;simp at I;done)|(rename_i hu;exact run_equalIn_int w d t _ _ _ _ hu)
  ·cases h
 ·simp only[cl] at h
  cases hm.D0
  cases aH.D0;subst h
  split at I<;>first|(exfalso;simp at I;done)|(rename_i hu;rw[run_equalIn_string w d t _ _ hu];simp)
 ·cases h
def aqW {t:TypeId}{k:Nat}(h:K5 P t=some k):(isAgg t).run P w=.ok false w:=by
 unfold K5 at h
 split at h<;>simp only[cl,reduceCtorEq] at h<;>(rename_i hu;simp[isAgg,run_underlying hu])
def ada {d:Nat}{xs ys:Array Value}{cs ds:List O}(Q:∀(i:Nat) (m:O) (v:Value),cs[i]?=some m->xs[i]?=some v->bp w a2 B m v)(tT:xs.size=D cs)
  (al:∀(i:Nat) (m:O) (v:Value),ds[i]?=some m->ys[i]?=some v->bp w a2 B m v) (BS:ys.size=D ds) :
  ∀(dJ:List Field) (i:Nat) (g1:List Nat) (c:Bool),Ha P i dJ=some g1->BN g1 (cs.drop i) (ds.drop i)=some c->(Op.eqFields (d+1) xs ys dJ).run P w=.ok c w
 | [],i,g1,c,aK,H=>by
  simp[Ha] at aK;subst aK
  cases F:cs.drop i<;>cases G:ds.drop i<;>simp[F,G,BN] at H;subst H;simp[Op.eqFields]
 |f::r,i,g1,c,aK,H=>by
  simp only[Ha] at aK
  split at aK
  ·rename_i aH;obtain⟨na,vq⟩:=aH
   split at aK
   ·rename_i k aqX I D4
    cases aK
    cases F:cs.drop i with
    |nil=>simp[F,BN] at H
    |cons a x =>
     cases G:ds.drop i with
     |nil=>simp[F,G,BN] at H
     |cons b y =>
      rw[F,G] at H;simp only[BN] at H
      split at H
      ·rename_i aG c2 hC zW
       cases H
       have rQ:i<D cs:=by
        rcases iD i (D cs) with h|h
        ·exact h
        ·rw[j0 h] at F;cases F
       have ob:i<D ds:=by
        rcases iD i (D ds) with h|h
        ·exact h
        ·rw[j0 h] at G;cases G
       rw[iE rQ] at F;rw[iE ob] at G
       injection F with aO aqY
       injection G with ad aqZ
       subst aO;subst ad;subst aqY;subst aqZ
       have ex:xs[f.offset]?=some (xs[i]'(by omega)):=by rw[vq];exact Array.getElem?_eq_getElem (by omega)
       have Wg:ys[f.offset]?=some (ys[i]'(by omega)):=by rw[vq];exact Array.getElem?_eq_getElem (by omega)
       have rx:=Q i _ _ (bn rQ) (Array.getElem?_eq_getElem (by omega:i<xs.size));have aq0:=al i _ _ (bn ob) (Array.getElem?_eq_getElem (by omega:i<ys.size));have he:=aqV (P:=P) d I rx aq0 hC;have av:=ada (d:=d) Q tT al BS r (i+1) aqX c2 D4 zW;have aq1:(isAgg f.type).run P w=.ok false w:=aqW I;simp only[Op.eqFields,na,ne_eq,not_false_eq_true,if_true,Sem.run_bind,part,aq1,Result.andThen_ok,lD,if_false,ex,Wg,Sem.run_pure,he]
       cases aG
       ·simp
       ·simp[av]
      ·cases H
   ·cases aK
  ·cases aK
def adb {m:O}{v:Value}(h:bp w a2 B m v)(F:m.one=true):v.oneCell'=true:=by
 cases h with
 |M Y=>cases Y<;>first|rfl|simp[O.one] at F
 |nil=>rfl
 |ref he a8 aA=>obtain⟨a,cap,rfl,_⟩:=aA;rfl
 |ptr he a8 aA=>obtain⟨b,rfl,_⟩:=aA;rfl
 |fx ak Y=>rfl
 |agg ak Y=>simp[O.one] at F
 |cP ak Y=>simp[O.one] at F
 |no=>simp[O.one] at F
 |undef=>simp[O.one] at F
def aq2 {v:Value}(h:∀c,v ≠ .agg c):v.cells=#[v]:=by
 unfold Value.cells
 split
 ·rename_i cs;exact absurd rfl (h cs)
 ·rfl
def aq3 {m:O}{v:Value}(h:bp w a2 B m v)(hu:m ≠ .undef):v.cells.size=D m.cells/\∀(i:Nat) (c:O) (u:Value),m.cells[i]?=some c->v.cells[i]?=some u->bp w a2 B c u:=by
 have one:(∀c,v ≠ .agg c)->m.cells=[m]->v.cells.size=D m.cells/\∀(i:Nat) (c:O) (u:Value),m.cells[i]?=some c->v.cells[i]?=some u->bp w a2 B c u:=by
  intro aA hm;rw[hm,aq2 aA];refine⟨rfl,λi c u H hu=>?_⟩
  cases i with
  |zero=>simp at H hu;subst H;subst hu;exact h
  |succ i=>simp at H
 cases h with
 |M Y =>
  cases Y with
  |agg ak Y =>
   refine⟨by simp[Value.cells,O.cells];exact ak,λi c u H hu=>?_⟩
   simp only[O.cells,bo,dS] at H;obtain⟨d,nB,rfl⟩:=H;exact .M (Y i d u nB (by simpa [Value.cells] using hu))
  |_=>exact one (by simp) rfl
 |nil=>exact one (by simp) rfl
 |ref he a8 aA=>obtain⟨a,cap,rfl,_⟩:=aA;exact one (by simp) rfl
 |ptr he a8 aA=>obtain⟨b,rfl,_⟩:=aA;exact one (by simp) rfl
 |fx ak Y=>exact one (by simp) rfl
 |agg ak Y =>
  refine⟨by simp[Value.cells,O.cells];exact ak,λi c u H hu=>Y i c u (by simpa [O.cells] using H) (by simpa [Value.cells] using hu)⟩
 |cP ak Y=>exact one (by simp) rfl
 |no=>exact one (by simp[undef]) rfl
 |undef=>exact absurd rfl hu
end
section
variable {P:Program} {w:World} {a2:Nat->Prop} {B:e7}
def dg (w:World)(a2:Nat->Prop)(B:e7)(cs:List O)(vs:List Value):Prop :=
 (D vs)=D cs/\∀(i:Nat) (m:O) (v:Value),cs[i]?=some m->vs[i]?=some v->bp w a2 B m v
def dg.get {cs:List O}{vs:List Value}(h:dg w a2 B cs vs){i:Nat}{m:O}(J:cs[i]?=some m):∃v,vs[i]?=some v/\bp w a2 B m v:=by
 have ak:i<D cs:=(dK.1 J).1;have aA:vs[i]?=some (vs[i]'(by rw[h.1];exact ak)):=bn _;exact⟨_,aA,h.2 i m _ J aA⟩
def dg.nil:dg w a2 B [] []:=⟨rfl,λi m v h=>by simp at h⟩
def dg.cons {m:O}{v:Value}{cs:List O}{vs:List Value}(h:bp w a2 B m v)(aa:dg w a2 B cs vs):dg w a2 B (m::cs) (v::vs):=by
 refine⟨by simp[aa.1],λi m' D5 F G=>?_⟩
 cases i with
 |zero=>simp at F G;subst F;subst G;exact h
 |succ i=>exact aa.2 i m' D5 (by simpa using F) (by simpa using G)
def dg.append {a b:List O}{x y:List Value}(h:dg w a2 B a x)(cj:dg w a2 B b y):dg w a2 B (a++b) (x++y):=by
 refine⟨by simp[h.1,cj.1],λi m v F G=>?_⟩
 rw[Hg] at F G
 split at F
 ·rename_i J;rw[ab (by rw[h.1];exact J)] at G;exact h.2 i m v F G
 ·rename_i J;rw[ae (by rw[h.1];exact J),h.1] at G;exact cj.2 _ m v F G
def dg.drop {a:List O}{x:List Value}(h:dg w a2 B a x)(n:Nat):dg w a2 B (a.drop n) (x.drop n) :=
 ⟨by simp[h.1],λi m v F G=>h.2 (n+i) m v (by simpa using F) (by simpa using G)⟩
def dg.take {a:List O}{x:List Value}(h:dg w a2 B a x)(n:Nat):dg w a2 B (a.take n) (x.take n):=by
 refine⟨by simp[h.1],λi m v F G=>?_⟩
 rw[zX] at F G
 split at F
 ·rename_i J;rw[ab J] at G;exact h.2 i m v F G
 ·cases F
def dg.k6 {a b:List O}{x y:List Value}(h:dg w a2 B a x)(cj:dg w a2 B b y)(off:Nat):
  dg w a2 B (k6 a off b) (x.take off++y++x.drop (off+D y)):=by
 unfold Mini.k6;rw[cj.1];exact ((h.take off).append cj).append (h.drop _)
def dg.Wh {m:O}{v:Value}(h:bp w a2 B m v)(hu:m ≠ .undef):dg w a2 B m.cells v.cells.toList:=by
 obtain⟨F,G⟩:=aq3 h hu;exact⟨by simpa using F,λi c u H aA=>G i c u H (by simpa using aA)⟩
def dg.M {ds:List Data}{vs:List Value}(ak:(D vs)=D ds)(h:∀(i:Nat) (d:Data) (v:Value),ds[i]?=some d->vs[i]?=some v->Den w a2 d v):dg w a2 B (ds.map .M) vs:=by
 refine⟨by simp[ak],λi m v F G=>?_⟩
 simp only[bo,dS] at F;obtain⟨d,Y,rfl⟩:=F;exact .M (h i d v Y G)
def Hh {cs:List O}{off n:Nat}{r:List O}(h:cut cs off n=some r):off+n<=D cs/\r=(cs.drop off).take n/\D r=n:=by
 unfold cut at h
 split at h
 ·rename_i ak
  cases h;exact⟨ak,rfl,by simp;omega⟩
 ·cases h
def eF (w:World)(b off:Nat)(vs:List Value):Prop:=∀(j:Nat) (u:Value),vs[j]?=some u->w.cell? ⟨b,off+j,none⟩=some u
def eF.add {w:World}{b off:Nat}{vs:List Value}(h:eF w b off vs)(n:Nat):eF w b (off+n) (vs.drop n):=λj u ag=>by
 have:=h (n+j) u (by simpa using ag);rwa [<-qA] at this
def eF.take {w:World}{b off:Nat}{vs:List Value}(h:eF w b off vs)(n:Nat):eF w b off (vs.take n):=λj u ag=>by
 rw[zX] at ag
 split at ag
 ·exact h j u ag
 ·cases ag
def eF.row {w:World}{b:Nat}{vs:Array Value}{T:TypeId}{aE:Nat×Nat}(h:w.heap[b]?=some (.cells vs T aE)):eF w b 0 vs.toList:=λj u ag=>by
 rw[ks,cell_of_row w b j vs T aE h]
 simpa using ag
def zY (b off n:Nat):(⟨b,off,none⟩:Addr).add n=⟨b,off+n,none⟩:=by
 unfold Addr.add
 split<;>simp_all
def eF.load {b off:Nat}{vs:List Value}(h:eF w b off vs):(loadCells ⟨b,off,none⟩ (D vs)).run P w=.ok vs.toArray w :=
 run_loadCells_list w _ vs λj v ag=>by rw[zY];exact h j v ag
def vr {t:TypeId}{n:Nat}(h:gn P t=some n):(sizeOf t).run P w=.ok n w:=by
 simp only[gn,dS] at h;obtain⟨i,J,rfl⟩:=h;simp[sizeOf,typeInfo,J]
def P4 {t:TypeId}{g:Bool}(h:zR P t=some g):(isAgg t).run P w=.ok g w:=by
 simp only[zR,dS] at h;obtain⟨d,Y,rfl⟩:=h;simp only[isAgg,Sem.run_bind,run_underlying Y,Result.andThen_ok]
 cases d<;>rfl
def ade {t:TypeId}{n:Nat}{dW:Bool}{b off:Nat}{ms:List O}{vs:List Value}{r:O}(X:gn P t=some n)(aO:zR P t=some dW)(ak:(D ms)=n)
  (b0:dg w a2 B ms vs) (bH:eF w b off vs) (h:rL dW ms=some r):∃u,(loadVar t ⟨b,off,none⟩).run P w=.ok u w/\bp w a2 B r u:=by
 unfold rL at h
 split at h
 ·rename_i zZ
  cases h;subst zZ;refine⟨.agg vs.toArray,?_,.agg b0.1 b0.2⟩;have:=bH.load (P:=P);rw[b0.1,ak] at this;simp[loadVar,P4 aO,vr X,this]
 ·rename_i zZ
  split at h
  ·cases h;obtain⟨u,hu,aa⟩:=b0.get (i:=0) (m:=r) rfl;have:=bH 0 u hu;have Wi:dW=false:=by simpa using zZ
   subst Wi;exact⟨u,by simp[loadVar,P4 aO,this];simpa using by rw[show off=off+0 from rfl,this],aa⟩
  ·cases h
end
section
variable {P:Program} {A:Nat->Prop} {w:World} {B:e7} {mem:Mem}
def fs.at_ (h:fs A w B mem){k:Key}{g:Nat}{cs:List O}(I:mem k=some (g,cs)):
  ∃e,B k=some e/\e.g=g/\(e.dr=none->cs=[])/\∀b,e.dr=some b->∃(vs:Array Value) (T:TypeId),w.heap[b]?=some (.cells vs T (0,0))/\vs.size=e.size/\D cs<=vs.size /\
   dg w (b4 A B) B cs (vs.toList.take (D cs)):=by
 obtain⟨e,he,a8,aH,ad⟩:=h.dr k g cs I;refine⟨e,he,a8,aH,λb jZ=>?_⟩;obtain⟨vs,T,F,G,af,aS⟩:=ad b jZ;refine⟨vs,T,F,G,af,by simp;omega,λi m v hm aA=>?_⟩
 obtain⟨u,hu,aa⟩:=aS i m hm;rw[zX] at aA
 split at aA
 ·rw[Array.getElem?_toList,hu] at aA
  cases aA;exact aa
 ·cases aA
def adf {n:Nat}{dW:Bool}{m r:O}{v:Value}(bR:fs A w B mem)(aA:bp w (b4 A B) B m v)(h:pc mem n dW m=some r):
  ∃b off ms vs,v=.pointer (some ⟨b,off,none⟩)/\D ms=n/\dg w (b4 A B) B ms vs/\eF w b off vs/\rL dW ms=some r:=by
 unfold pc at h
 split at h
 ·rename_i k g off
  split at h
  ·rename_i cV cs I
   split at h
   ·rename_i a8;subst a8;simp only[ek] at h;obtain⟨ms,aR,aa⟩:=h;obtain⟨ak,rfl,aH⟩:=Hh aR;obtain⟨e,he,ca,D6,ad⟩:=bR.at_ I
    cases aA with
    |ptr gA K7 nb =>
     rw[he] at gA
     cases gA;obtain⟨b,rfl,jZ⟩:=nb;have jZ:=jZ ca.symm;obtain⟨vs,T,aX,aV,hle,b0⟩:=ad b jZ;refine⟨b,off,_,((vs.toList.take (D cs)).drop off).take n,rfl,aH,(b0.drop off).take n,?_,aa⟩;have:=(((eF.row aX).take (D cs)).add off).take n
     simpa using this
   ·cases h
  ·cases h
 ·rename_i ds;simp only[ek] at h;obtain⟨ms,aR,aa⟩:=h;obtain⟨ak,rfl,aH⟩:=Hh aR
  cases aA with
  |M Y =>
   cases Y with
   | @ptr cs b off val ad fN H Y =>
    refine⟨b,off,_,((dD (D ds)).map val).take n,rfl,aH,?_,?_,aa⟩
    ·have:dg w (b4 A B) B (ds.map .M) ((dD (D ds)).map val):=dg.M (by simp) λi d v F G=>by
      have J:i<D ds:=(dK.1 F).1;simp[J] at G;subst G;exact Y i d F
     simpa using this.take n
    ·refine eF.take (λj u ag=>?_) n;simp only[bo,dS] at ag;obtain⟨l1,pV,rfl⟩:=ag
     have F:l1=j/\j<D ds:=by
      rcases iD j (D ds) with h|h
      ·rw[vt h] at pV;exact⟨by simpa using pV.symm,h⟩
      ·rw[mB (by simpa using h)] at pV
       cases pV
     obtain⟨rfl,j1⟩:=F;exact H l1 j1
 ·cases h
def aq4 {t:TypeId}{n:Nat}{dW:Bool}{m r:O}{v:Value}(X:gn P t=some n)(aO:zR P t=some dW)(bR:fs A w B mem)(aA:bp w (b4 A B) B m v)(h:pc mem n dW m=some r):
  ∃u,(Instr.loadAt t v).run P w=.ok u w/\bp w (b4 A B) B r u:=by
 obtain⟨b,off,ms,vs,rfl,ak,b0,bH,aa⟩:=adf bR aA h;obtain⟨u,F,G⟩:=ade (P:=P) X aO ak b0 bH aa;exact⟨u,by simpa [Instr.loadAt,Instr.sureAddr] using F,G⟩
end
section
variable {P:Program} {w:World} {a2:Nat->Prop} {B:e7}
def adg {m:O}{cs:List O}{v:Value}(h:KJ m=some cs)(aA:bp w a2 B m v):∃vs:List Value,v=.agg vs.toArray/\dg w a2 B cs vs:=by
 unfold KJ at h
 split at h
 ·cases h
  cases aA with
  |agg ak Y=>exact⟨_,rfl,ak,Y⟩
 ·cases h
  cases aA with
  |M Y =>
   cases Y with
   |agg ak Y=>exact⟨_,rfl,dg.M ak Y⟩
 ·cases h
def adh {neg:Bool}{g1:List Nat}{m n r:O}{u v:Value}(t:TypeId)(x y:Operand)(dJ:Array Field)(hu:P.underlying t=some (.struct dJ))(X:P.stoodInHeld t=false)
  (a8:P.eqGuardType P.depth t=false) (I:Ha P 0 dJ.toList=some g1) (hm:bp w a2 B m u) (aH:bp w a2 B n v) (h:KK neg g1 m n=some r) :
  ∃z,((do eqGuard (if neg then .neq else .eql) t x y u v;binOp (if neg then .neq else .eql) t u v:Sem Value)).run P w=.ok z w/\bp w a2 B r z:=by
 unfold KK at h
 split at h
 ·rename_i cs ds kt gp
  split at h
  ·rename_i c H
   cases h;obtain⟨xs,rfl,Q⟩:=adg kt hm;obtain⟨ys,rfl,al⟩:=adg gp aH;have vu:P.fieldsOf t=dJ:=by simp[Program.fieldsOf,hu]
   have he:=run_equalIn_struct (P:=P) w 9999 t xs.toArray ys.toArray (by rw[vu];exact hu) X;rw[vu] at he
   have aK:=ada (P:=P) (w:=w) (a2:=a2) (B:=B) (d:=9998) (xs:=xs.toArray) (ys:=ys.toArray) (cs:=cs) (ds:=ds)
    (λi m v F G=>Q.2 i m v F (by simpa using G)) (by simpa using Q.1) (λi m v F G=>al.2 i m v F (by simpa using G)) (by simpa using al.1) dJ.toList 0 g1 c I (by simpa using H)
   have heq:(Op.equal t (.agg xs.toArray) (.agg ys.toArray)).run P w=.ok c w:=by
    show (Op.equalIn (9999+1) t _ _).run P w=_;rw[he];exact aK
   have w6:∀op,(op=BinOp.eql\/op=.neq)->(eqGuard op t x y (.agg xs.toArray) (.agg ys.toArray)).run P w=.ok () w:=by
    intro op nc;rcases nc with rfl|rfl<;>simp[eqGuard,a8]
   refine⟨.bool (neg != c),?_,.M .bool⟩
   cases neg
   ·simp only[lD,if_false,Sem.run_bind,w6 _ (.inl rfl),Result.andThen_ok];show (do pure (Value.bool (<-Op.equal t (.agg xs.toArray) (.agg ys.toArray))):Sem Value).run P w=_
    simp[heq]
   ·simp only[if_true,Sem.run_bind,w6 _ (.inr rfl),Result.andThen_ok];show (do pure (Value.bool (!(<-Op.equal t (.agg xs.toArray) (.agg ys.toArray)))):Sem Value).run P w=_
    simp[heq]
  ·cases h
 ·cases h
def aq5 {c a b r:O}{adi vv sL:Value}(H:bp w a2 B c adi)(aO:bp w a2 B a vv)(ad:bp w a2 B b sL)(h:GX c a b=some r):
  ∃z,(do pure (if <-asBool adi then vv else sL):Sem Value).run P w=.ok z w/\bp w a2 B r z:=by
 unfold GX at h
 split at h
 ·rename_i t
  cases H.DZ
  cases t
  ·cases h;exact⟨sL,by simp[asBool],ad⟩
  ·cases h;exact⟨vv,by simp[asBool],aO⟩
 ·cases h
def aq6 {op:UnOp}{m r:O}{v:Value}(hm:bp w a2 B m v)(h:KH op m=some r):∃z,(Op.unary op v).run P w=.ok z w/\bp w a2 B r z:=by
 unfold KH at h
 split at h
 ·cases h;cases hm.yy;exact⟨_,by simp[Op.unary,Op.intArith],.M .int⟩
 ·cases h;cases hm.yy;exact⟨_,by simp[Op.unary,go_sem],.M .int⟩
 ·cases h;cases hm.DZ;exact⟨_,by simp[Op.unary],.M .bool⟩
 ·cases h
def aq7 {k:IntKind}{m r:O}{v:Value}(s t:TypeId)(g1:IntKind)(X:P.underlying s=some (.int g1))(bz:P.underlying t=some (.int k))(hm:bp w a2 B m v)(h:KL k m=some r):
  ∃z,(convert s t v).run P w=.ok z w/\bp w a2 B r z:=by
 unfold KL at h
 split at h
 ·cases h
  cases hm.yy;have J:P.intKind t=k:=by simp[Program.intKind,bz]
  have:=run_convert_int (P:=P) w s t;exact⟨.int k _,by simp[convert,run_underlying X,run_underlying bz,Conv.intToInt],.M .int⟩
 ·cases h
def aq8 {off:Nat}{m r:O}{v:Value}(t:TypeId)(f:Nat)(dJ:Array Field)(fd:Field)(s:Nat)(hu:P.underlying t=some (.struct dJ))(aK:dJ[f]?=some fd)(X:gn P fd.type=some s)(au:0<s)
  (bx:fd.offset=off) (hm:bp w a2 B m v) (h:KN off m=some r):∃z,(Instr.fieldAt t v f).run P w=.ok z w/\bp w a2 B r z:=by
 have bE:¬ s=0:=by omega
 have run:∀b o,(Instr.fieldAt t (.pointer (some ⟨b,o,none⟩)) f).run P w=.ok (.pointer (some ⟨b,o+off,none⟩)) w:=by
  intro b o;simp[Instr.fieldAt,run_underlying hu,aK,Instr.sureAddr,fieldPlace,vr X,bE,zY,bx]
 unfold KN at h
 split at h
 ·cases h;rename_i k g o
  cases hm with
  |ptr he a8 aA =>
   obtain⟨b,rfl,ad⟩:=aA;exact⟨_,run b o,.ptr he a8 ⟨b,rfl,ad⟩⟩
 ·rename_i ds
  split at h
  ·rename_i ak
   cases h
   cases hm with
   |M Y =>
    cases Y with
    | @ptr cs b o val ad fN H Y =>
     refine⟨_,run b o,.M (.ptr (λi=>val (off+i)) ad fN (λi J=>?_) λi d k8=>Y _ d (by simpa using k8))⟩;have:=H (off+i) (by simp at J;omega);rwa [<-qA] at this
  ·cases h
 ·cases h
def aq9 {t:TypeId}{n off:Nat}{dW:Bool}{cs ms:List O}{vs:List Value}{r:O}(X:gn P t=some n)(aO:zR P t=some dW)(b0:dg w a2 B cs vs)(H:cut cs off n=some ms)(h:rL dW ms=some r):
  ∃u,(part t vs.toArray off).run P w=.ok u w/\bp w a2 B r u:=by
 obtain⟨ak,rfl,aH⟩:=Hh H;have bL:=(b0.drop off).take n;unfold rL at h
 split at h
 ·rename_i zZ
  cases h;subst zZ;refine⟨.agg ((vs.drop off).take n).toArray,?_,.agg bL.1 bL.2⟩
  have e:vs.toArray.extract off (off+n)=((vs.drop off).take n).toArray:=by
   simp[List.extract_eq_take_drop]
  simp[part,P4 aO,vr X,e]
 ·rename_i zZ;have Wi:dW=false:=by simpa using zZ
  subst Wi
  split at h
  ·rename_i m aR
   cases h
   have J:cs[off]?=some r:=by
    have:=congrArg (λl=>l[0]?) aR;simp[zX] at this;exact this.2
   obtain⟨u,hu,ara⟩:=b0.get J;exact⟨u,by simp[part,P4 aO,hu],ara⟩
  ·cases h
def arb {off n:Nat}{dW:Bool}{m r:O}{v:Value}(t:TypeId)(f:Nat)(dJ:Array Field)(fd:Field)(hu:P.underlying t=some (.struct dJ))(aK:dJ[f]?=some fd)(X:gn P fd.type=some n)
  (aO:zR P fd.type=some dW) (bx:fd.offset=off) (hm:bp w a2 B m v) (h:KO off n dW m=some r):∃z,(Instr.field t v f).run P w=.ok z w/\bp w a2 B r z:=by
 subst bx
 have go:∀(cs:List O) (vs:List Value),dg w a2 B cs vs->(cut cs fd.offset n).bind (rL dW)=some r->∃z,(Instr.field t (.agg vs.toArray) f).run P w=.ok z w/\bp w a2 B r z:=by
  intro cs vs b0 aX;simp only[ek] at aX;obtain⟨ms,F,G⟩:=aX;obtain⟨u,af,aS⟩:=aq9 (P:=P) X aO b0 F G;exact⟨u,by simp[Instr.field,run_underlying hu,aK,asAgg,af],aS⟩
 unfold KO at h
 split at h
 ·cases hm with
  |agg ak Y=>exact go _ _ ⟨ak,Y⟩ h
 ·cases hm with
  |M Y =>
   cases Y with
   |agg ak Y=>exact go _ _ (dg.M ak Y) h
 ·cases h
def Hi {m:O}{n:Nat}{v:Value}(h:idx m=some n)(aA:bp w a2 B m v):∃k,v=.int k (n:Int):=by
 unfold idx at h
 split at h
 ·rename_i k i
  split at h
  ·rename_i au
   cases h
   cases aA.yy;exact⟨k,by rw[Int.toNat_of_nonneg au]⟩
  ·cases h
 ·cases h
def GV.at_ {e:mw}{g sz off len:Nat}{v:Value}(h:GV e g sz off len v)(au:0<len):∃b cap,v=.slice (some ⟨b,off,none⟩) len cap/\len<=cap/\cap<=maxLen/\(g=e.g->e.dr=some b/\off+cap*sz<=e.size):=by
 obtain⟨a,cap,rfl,G,af,aS⟩:=h;rcases aS with aS|⟨b,rfl,bt⟩
 ·omega
 ·exact⟨b,cap,rfl,G,af,bt⟩
def arc {es:List (List Data)}{sz:Nat}(e6:∀e∈es,D e=sz):∀(n i:Nat) (e:List Data),es[n]?=some e->i<sz->es.flatten[n*sz+i]?=e[i]?:=by
 induction es with
 |nil=>intro n i e h;simp at h
 |cons a r av =>
  intro n i e h J;have aO:=e6 a (by simp)
  cases n with
  |zero =>
   simp at h;subst h;rw[k5,sM (by omega)];simp
  |succ n =>
   rw[k5,rR (by rw[aO,vw];omega)];have:=av (λx Q=>e6 x (by simp[Q])) n i e (by simpa using h) J;rw[<-this,aO]
   congr 1
   rw[vw];omega
def ard {sz n:Nat}{m r:O}{v:Value}{k:IntKind}(t e:TypeId)(hu:P.underlying t=some (.slice e))(X:gn P e=some sz)(hm:bp w a2 B m v)(h:vm sz n m=some r):
  ∃z,(Instr.indexAt t v (.int k (n:Int))).run P w=.ok z w/\bp w a2 B r z:=by
 have run:∀b off len cap,n<len->(Instr.indexAt t (.slice (some ⟨b,off,none⟩) len cap) (.int k (n:Int))).run P w=.ok (.pointer (some ⟨b,off+n*sz,none⟩)) w:=by
  intro b off len cap aq;simp[Instr.indexAt,run_underlying hu,asIntOf,aq,vr X,zY]
 unfold vm at h
 split at h
 ·split at h
  ·rename_i ak;obtain⟨aq,rfl⟩:=ak
   cases h
   cases hm with
   |ref he a8 aA =>
    obtain⟨b,cap,rfl,F,G,af⟩:=aA.at_ (by omega);exact⟨_,run _ _ _ _ aq,.ptr he a8 ⟨b,rfl,λh=>(af h).1⟩⟩
  ·cases h
 ·rename_i es
  split at h
  ·rename_i el k9
   split at h
   ·rename_i hle
    cases h
    cases hm with
    |M Y =>
     have aq:n<D es:=(dK.1 k9).1
     cases Y with
     |l0=>simp at aq
     | @ay es b off c et val ak adj ad fN e6 H Y =>
      have K8:et=sz:=by rw[<-hle];exact (e6 _ (dZ k9)).symm
      subst K8
      have hmul:n*et+et<=D es*et:=by
       have:(n+1)*et<=D es*et:=sN _ aq;rwa [qs,BJ] at this
      refine⟨_,run _ _ _ _ aq,.M (.ptr (λi=>val (n*et+i)) ad fN (λi J=>?_) λi d k8=>?_)⟩
      ·have:=H (n*et+i) (by omega);rwa [<-qA] at this
      ·refine Y _ d ?_;rw[arc e6 n i el k9 (by have:=(dK.1 k8).1;omega)];exact k8
   ·cases h
  ·cases h
 ·cases h
def arf {len sz n:Nat}{m r:O}{v:Value}{k:IntKind}(t e:TypeId)(hu:P.underlying t=some (.array len e))(X:gn P e=some sz)(hm:bp w a2 B m v)(h:KP len sz n m=some r):
  ∃z,(Instr.indexAt t v (.int k (n:Int))).run P w=.ok z w/\bp w a2 B r z:=by
 have run:∀b off,n<len->(Instr.indexAt t (.pointer (some ⟨b,off,none⟩)) (.int k (n:Int))).run P w=.ok (.pointer (some ⟨b,off+n*sz,none⟩)) w:=by
  intro b off aq;simp[Instr.indexAt,run_underlying hu,asIntOf,Instr.sureAddr,aq,vr X,zY]
 unfold KP at h
 split at h
 ·split at h
  ·rename_i aq
   cases h
   cases hm with
   |ptr he a8 aA =>
    obtain⟨b,rfl,ad⟩:=aA;exact⟨_,run _ _ aq,.ptr he a8 ⟨b,rfl,ad⟩⟩
  ·cases h
 ·rename_i ds
  split at h
  ·rename_i ak;obtain⟨aq,hle⟩:=ak
   cases h
   cases hm with
   |M Y =>
    cases Y with
    | @ptr cs b o val ad fN H Y =>
     refine⟨_,run _ _ aq,.M (.ptr (λi=>val (n*sz+i)) ad fN (λi J=>?_) λi d k8=>Y _ d (by simpa using k8))⟩;have:=H (n*sz+i) (by simp at J;omega);rwa [<-qA] at this
  ·cases h
 ·cases h
def arh {n:Nat}{m r:O}{v:Value}{k:IntKind}(t:TypeId)(hu:P.underlying t=some .string)(hm:bp w a2 B m v)(h:KQ n m=some r):
  ∃z,(Instr.index t v (.int k (n:Int))).run P w=.ok z w/\bp w a2 B r z:=by
 unfold KQ at h
 split at h
 ·rename_i s;simp only[dS] at h;obtain⟨b,ad,rfl⟩:=h
  cases hm.D0;have aq:n<D s:=(dK.1 ad).1
  have e:(ByteArray.mk s.toArray)[n]?=some b:=by
   rw[ByteArray.getElem?_lt' _ _ (by simpa [ByteArray.size] using aq)];have:=(dK.1 ad).2;simp only[cl];rw[<-this]
   rfl
  exact⟨.int .u8 b.toNat,by simp[Instr.index,run_underlying hu,asIntOf,e],.M .int⟩
 ·cases h
def ari {i:Nat}{m r:O}{v:Value}(hm:bp w a2 B m v)(h:KU i m=some r):∃z,(Instr.extract v i).run P w=.ok z w/\bp w a2 B r z:=by
 unfold KU at h
 split at h
 ·cases hm with
  |cP ak Y =>
   obtain⟨u,hu,aa⟩:=dg.get ⟨ak,Y⟩ h;exact⟨u,by simp[Instr.extract,hu],aa⟩
 ·simp only[dS] at h;obtain⟨d,nB,rfl⟩:=h
  cases hm with
  |M Y =>
   cases Y with
   |cP ak Y =>
    obtain⟨u,hu,aa⟩:=dg.get (dg.M ak Y) (i:=i) (m:=.M d) (by simp[nB]);exact⟨u,by simp[Instr.extract,hu],aa⟩
 ·cases h
def arj {m:O}{n:Nat}{v:Value}(t ty e:TypeId)(bz:P.underlying t=some (.slice e))(hm:bp w a2 B m v)(h:pb m=some n):
  (Builtin.len_ #[t] ty #[v]).run P w=.ok (.int .i64 n) w:=by
 have run:∀a c,(Builtin.len_ #[t] ty #[.slice a n c]).run P w=.ok (.int .i64 n) w:=λa c=>by
  simp[Builtin.len_,run_underlying bz,goInt]
 unfold pb at h
 split at h<;>cases h
 ·cases hm with
  |M Y =>
   cases Y with
   |l0=>exact run _ _
   |ay=>exact run _ _
 ·cases hm with
  |nil=>exact run _ _
 ·cases hm with
  |ref he a8 aA=>obtain⟨a,cap,rfl,_⟩:=aA;exact run _ _
def ark {m:O}{n:Nat}{v:Value}(t ty:TypeId)(bz:P.underlying t=some .string)(hm:bp w a2 B m v)(h:zP m=some n):
  (Builtin.len_ #[t] ty #[v]).run P w=.ok (.int .i64 n) w:=by
 unfold zP at h
 split at h<;>cases h
 rename_i s
 cases hm.D0;have e:(ByteArray.mk s.toArray).size=D s:=by simp[ByteArray.size]
 simp[Builtin.len_,run_underlying bz,goInt,e]
def adk {kq:Bool}{m n r:O}{u v:Value}(tU:Array TypeId)(t:TypeId)(hm:bp w a2 B m u)(aH:bp w a2 B n v)(h:KV kq m n=some r):
  ∃z,(if kq=true then Builtin.max_ tU t #[u,v] else Builtin.min_ tU t #[u,v]).run P w=.ok z w/\bp w a2 B r z:=by
 unfold KV at h
 split at h
 ·split at h
  ·rename_i I;subst I
   cases h
   cases hm.yy
   cases aH.yy
   cases kq
   ·exact⟨_,by simp[run_min_int2],.M .int⟩
   ·exact⟨_,by simp[run_max_int2],.M .int⟩
  ·cases h
 ·cases h
def arl {m r:O}{v:Value}(hm:bp w a2 B m v)(h:KM m=some r):(∃b off,v=.pointer (some ⟨b,off,none⟩))/\bp w a2 B r v:=by
 unfold KM at h
 split at h
 ·cases h;refine⟨?_,hm⟩
  cases hm with
  |ptr he a8 aA=>obtain⟨b,rfl,_⟩:=aA;exact⟨_,_,rfl⟩
 ·cases h;refine⟨?_,hm⟩
  cases hm with
  |M Y=>cases Y;exact⟨_,_,rfl⟩
 ·cases h
def Hj {x:O}{n y:Nat}{v:Value}(code:BoundsCode)(Q:idx x=some n)(aA:bp w a2 B x v)(aH:n<=y):(Instr.sliceBound v y code).run P w=.ok n w:=by
 obtain⟨k,rfl⟩:=Hi Q aA
 simpa using run_sliceBound (P:=P) w k (n:Int) y code (by omega) (by omega)
def rS (w:World)(a2:Nat->Prop)(B:e7):Option O->Option Value->Prop
 |none,none=>True
 |some m,some v=>bp w a2 B m v
 |_,_=>False
def Wj {len cap l h:Nat}{bN J:Option O}{la lb:Option Value}(Wk:Bool)(fB:jW 0 bN=some l)(jq:jW len J=some h)
  (nd:rS w a2 B bN la) (l2:rS w a2 B J lb) (ak:l<=h) (aX:h<=cap):(Instr.sliceBounds Wk len cap la lb none).run P w=.ok (l,h,cap) w:=by
 unfold Instr.sliceBounds
 cases bN with
 |none =>
  cases la with
  |some v=>exact nd.elim
  |none =>
   simp[jW] at fB;subst fB
   cases J with
   |none =>
    cases lb with
    |some v=>exact l2.elim
    |none=>simp[jW] at jq;subst jq;simp
   |some m =>
    cases lb with
    |none=>exact l2.elim
    |some v =>
     have aD:=λcode=>Hj (P:=P) (y:=cap) code jq l2 aX
     cases Wk<;>simp[aD]
 |some D7 =>
  cases la with
  |none=>exact nd.elim
  |some bg =>
   have az:=λcode=>Hj (P:=P) (y:=h) code fB nd ak
   cases J with
   |none =>
    cases lb with
    |some v=>exact l2.elim
    |none=>simp[jW] at jq;subst jq;simp[az]
   |some m =>
    cases lb with
    |none=>exact l2.elim
    |some v =>
     have aD:=λcode=>Hj (P:=P) (y:=cap) code jq l2 aX
     cases Wk<;>simp[az,aD]
def arn {len cap l h m:Nat}{bN:Option O}{J kq:O}{la:Option Value}{lb z0:Value}(fB:jW 0 bN=some l)(jq:idx J=some h)(h4:idx kq=some m)
  (nd:rS w a2 B bN la) (l2:bp w a2 B J lb) (Hk:bp w a2 B kq z0) (ak:l<=h) (aX:h<=m) (hm:m<=cap):(Instr.sliceBounds true len cap la (some lb) (some z0)).run P w=.ok (l,h,m) w:=by
 have bZ:=Hj (P:=P) (y:=cap) .slice3Acap h4 Hk hm;have aD:=Hj (P:=P) (y:=m) .slice3B jq l2 aX;unfold Instr.sliceBounds
 cases bN with
 |none =>
  cases la with
  |some v=>exact nd.elim
  |none =>
   simp[jW] at fB;subst fB;simp[bZ,aD]
 |some D7 =>
  cases la with
  |none=>exact nd.elim
  |some bg =>
   have az:=Hj (P:=P) (y:=h) .slice3C fB nd ak;simp[bZ,aD,az]
def P5 {m:O}{n:Nat}{v:Value}(hm:bp w a2 B m v)(h:pb m=some n):∃a c,v=.slice a n c/\n<=c:=by
 unfold pb at h
 split at h<;>cases h
 ·cases hm with
  |M Y =>
   cases Y with
   |l0=>exact⟨_,_,rfl,by simp⟩
   |ay val ak=>exact⟨_,_,rfl,ak⟩
 ·cases hm with
  |nil=>exact⟨_,_,rfl,by simp⟩
 ·cases hm with
  |ref he a8 aA=>obtain⟨a,cap,rfl,F,_⟩:=aA;exact⟨_,_,rfl,F⟩
def adl {t e:TypeId}{sz l h iB:Nat}{a:Option Addr}{len cap:Nat}{la lb z0:Option Value}(bz:P.underlying t=some (.slice e))(X:gn P e=some sz)
  (ad:(Instr.sliceBounds true len cap la lb z0).run P w=.ok (l,h,iB) w) :
  (Instr.sliceAt t (.slice a len cap) la lb z0).run P w=.ok (.slice (if iB=l then a else a.map (·.add (l*sz))) (h-l) (iB-l)) w:=by
 simp[Instr.sliceAt,Instr.slice,run_underlying bz,ad,vr X]
def aro {es:List (List Data)}{sz:Nat}(e6:∀e∈es,D e=sz)(l:Nat):(es.drop l).flatten=es.flatten.drop (l*sz):=by
 induction es generalizing l with
 |nil=>simp
 |cons a r av =>
  cases l with
  |zero=>simp
  |succ l =>
   have aO:=e6 a (by simp);rw[w7,av (λx Q=>e6 x (by simp[Q])) l,k5,List.drop_append,aO];have F:a.drop ((l+1)*sz)=[]:=j0 (by rw[aO,vw];omega);rw[F,ik]
   congr 1
   rw[vw];omega
def arp {es:List (List Data)}{sz:Nat}(e6:∀e∈es,D e=sz)(l:Nat):(es.take l).flatten=es.flatten.take (l*sz):=by
 induction es generalizing l with
 |nil=>simp
 |cons a r av =>
  cases l with
  |zero=>simp
  |succ l =>
   have aO:=e6 a (by simp);rw[vx,k5,av (λx Q=>e6 x (by simp[Q])) l,k5,D8,aO];have F:a.take ((l+1)*sz)=a:=dt (by rw[aO,vw];omega);rw[F]
   congr 2
   rw[vw];omega
def adm {es:List (List Data)}{a:Option Addr}{len c sz l h cc:Nat}(Y:Den w a2 (.ay es) (.slice a len c))(ak:l<=h)(aX:h<=D es)(e6:0<(D es)->∀e∈es,D e=sz)(H:h-l<=cc):
  l=h\/Den w a2 (.ay ((es.take h).drop l)) (.slice (a.map (·.add (l*sz))) (h-l) cc):=by
 rcases P6 ak with rfl|aq
 ·exact .inl rfl
 ·refine .inr ?_
  cases Y with
  |l0=>simp at aX;omega
  | @ay es b off c et val P0 hm ad fN hsz' qB BT =>
   have h5:0<D es:=by omega
   have K8:et=sz:=by
    have au:=nC (l:=es) (n:=0) h5;rw[<-hsz' _ au,e6 h5 _ au]
   subst K8;have hlen:((es.take h).drop l).length=h-l:=by simp;omega
   have hmul:l*et+(h-l)*et<=D es*et:=by
    rw[<-qs];exact sN _ (by omega)
   have:=Den.ay (w:=w) (a2:=a2) (es:=(es.take h).drop l) (b:=b) (off:=off+l*et) (c:=cc) (sz:=et) (λi=>val (l*et+i)) (by rw[hlen];exact H) (by rw[hlen];omega) ad fN
    (λe he=>hsz' e (D9 (List.mem_of_mem_drop he)))
    (λi J=>by
     rw[hlen] at J;have:=qB (l*et+i) (by omega);rwa [<-qA] at this)
    (λi d k8=>by
     refine BT _ d ?_;rw[aro (λe he=>hsz' e (D9 he)) l,arp hsz' h] at k8;rw[lE,zX] at k8
     split at k8
     ·exact k8
     ·cases k8)
   rw[hlen] at this
   simpa [zY] using this
end
section
variable {P:Program} {w:World} {a2:Nat->Prop} {B:e7}
def Wl {sz:Nat}{es:List (List Data)}(h:pU sz es=true):∀e∈es,D e=sz:=λe he=>by
 simpa using ld.1 h e he
def arq {t e:TypeId}{sz l h len:Nat}{m r:O}{v:Value}{la lb:Option Value}{bN J:Option O}(bz:P.underlying t=some (.slice e))(X:gn P e=some sz)
  (fB:jW 0 bN=some l) (hlen:pb m=some len) (jq:jW len J=some h) (nd:rS w a2 B bN la) (l2:rS w a2 B J lb) (hm:bp w a2 B m v) (aa:KR sz l h m=some r) :
  ∃z,(Instr.sliceAt t v la lb none).run P w=.ok z w/\bp w a2 B r z:=by
 obtain⟨a,cap,rfl,Hl⟩:=P5 hm hlen
 have run:l<=h->h<=len->(Instr.sliceAt t (.slice a len cap) la lb none).run P w=.ok (.slice (if cap=l then a else a.map (·.add (l*sz))) (h-l) (cap-l)) w:=λF G =>
  adl bz X (Wj true fB jq nd l2 F (by omega))
 unfold KR at aa
 split at aa
 ·rename_i es
  split at aa
  ·rename_i H;obtain⟨F,G,af⟩:=H
   cases aa;simp only[pb,cl] at hlen;subst hlen;refine⟨_,run F G,.M ?_⟩
   cases hm with
   |M Y =>
    rcases adm (sz:=sz) Y F G (λ_=>Wl af) (cc:=cap-l) (by omega) with rfl|aF
    ·rw[show ((es.take l).drop l)=[] from by simp]
     rw[lf];exact .l0
    ·rcases P6 F with rfl|aq
     ·rw[show ((es.take l).drop l)=[] from by simp]
      rw[lf];exact .l0
     ·rw[ae (by omega)];exact aF
  ·cases aa
 ·split at aa
  ·rename_i H;obtain⟨rfl,rfl⟩:=H
   cases aa
   cases hm with
   |nil=>exact⟨_,run (by omega) (by omega),by simpa using bp.nil⟩
  ·cases aa
 ·split at aa
  ·rename_i k g et off Wm H;obtain⟨rfl,F,G⟩:=H
   cases aa;simp only[pb,cl] at hlen;subst hlen
   cases hm with
   |ref he a8 aA =>
    refine⟨_,run F G,.ref he a8 ?_⟩;obtain⟨j2,aKd,pW,pX,aKe,ars⟩:=aA
    injection pW with az aD bX
    subst az;subst bX
    refine⟨_,cap-l,rfl,by omega,by omega,?_⟩
    rcases jG (cap-l) with au|au
    ·exact .inl au
    ·refine .inr ?_;rcases ars with aS|⟨b,rfl,bt⟩
     ·omega
     ·refine⟨b,by rw[ae (by omega)];simp[zY],λca=>?_⟩
      obtain⟨b2,cb⟩:=bt ca;refine⟨b2,?_⟩;rw[qA,<-qs];rwa [show l+(cap-l)=cap from by omega]
  ·cases aa
 ·cases aa
def art {t e:TypeId}{sz l h iB:Nat}{m r:O}{v:Value}{la:Option Value}{lb z0:Value}{bN:Option O}{J kq:O}(bz:P.underlying t=some (.slice e))(X:gn P e=some sz)
  (fB:jW 0 bN=some l) (jq:idx J=some h) (h4:idx kq=some iB) (nd:rS w a2 B bN la) (l2:bp w a2 B J lb) (Hk:bp w a2 B kq z0) (hm:bp w a2 B m v) (aa:KS sz l h iB m=some r) :
  ∃z,(Instr.sliceAt t v la (some lb) (some z0)).run P w=.ok z w/\bp w a2 B r z:=by
 have run:∀a len cap,l<=h->h<=iB->iB<=len->len<=cap->(Instr.sliceAt t (.slice a len cap) la (some lb) (some z0)).run P w=.ok (.slice (if iB=l then a else a.map (·.add (l*sz))) (h-l) (iB-l)) w :=
  λa len cap F G af aS=>adl bz X (arn fB jq h4 nd l2 Hk F G (by omega))
 unfold KS at aa
 split at aa
 ·rename_i es
  split at aa
  ·rename_i H;obtain⟨F,G,af,aS⟩:=H;obtain⟨a,cap,rfl,Hl⟩:=P5 hm (n:=D es) rfl;refine⟨_,run a _ cap F G af Hl,?_⟩
   split at aa
   ·rename_i hD
    cases aa;subst hD;have:h=iB:=by omega
    subst this
    simpa using bp.nil
   ·rename_i hD
    cases aa;rw[ae hD]
    cases hm with
    |M Y =>
     refine .M ?_;rcases P6 F with rfl|aq
     ·rw[show ((es.take l).drop l)=[] from by simp]
      rw[lf];exact .l0
     ·rcases adm (sz:=sz) Y F (by omega) (λ_=>Wl aS) (cc:=iB-l) (by omega) with au|aF
      ·omega
      ·exact aF
  ·cases aa
 ·split at aa
  ·rename_i H;obtain⟨rfl,rfl,rfl⟩:=H
   cases aa;obtain⟨a,cap,rfl,Hl⟩:=P5 hm (n:=0) rfl;exact⟨_,run a _ cap (by omega) (by omega) (by omega) Hl,by simpa using bp.nil⟩
  ·cases aa
 ·rename_i k g et off len
  split at aa
  ·rename_i H;obtain⟨F,G,af,rfl⟩:=H
   cases aa;obtain⟨a,cap,rfl,Hl⟩:=P5 hm (n:=len) rfl;have:h=iB:=by omega
   subst this;exact⟨_,run a _ cap (by omega) (by omega) (by omega) Hl,by simpa using bp.nil⟩
  ·cases aa
 ·cases aa
def aru {t:TypeId}{l h len:Nat}{m r:O}{v:Value}{la lb:Option Value}{bN J:Option O}(bz:P.underlying t=some .string)
  (fB:jW 0 bN=some l) (hlen:zP m=some len) (jq:jW len J=some h) (nd:rS w a2 B bN la) (l2:rS w a2 B J lb) (hm:bp w a2 B m v) (aa:KT l h m=some r) :
  ∃z,(Instr.sliceAt t v la lb none).run P w=.ok z w/\bp w a2 B r z:=by
 unfold KT at aa
 split at aa
 ·rename_i s
  split at aa
  ·rename_i H;obtain⟨F,G⟩:=H
   cases aa;simp only[zP,cl] at hlen;subst hlen
   cases hm.D0;have e:(ByteArray.mk s.toArray).size=D s:=by simp[ByteArray.size]
   have ad:=Wj (P:=P) (w:=w) (a2:=a2) (B:=B) (cap:=D s) false fB jq nd l2 F G
   have Q:(ByteArray.mk s.toArray).extract l h=⟨((s.take h).drop l).toArray⟩:=by
    rw[ByteArray.extract_mk,adn]
   exact⟨.string ⟨((s.take h).drop l).toArray⟩,by simp[Instr.sliceAt,Instr.slice,run_underlying bz,e,ad,Q],.M .str⟩
  ·cases aa
 ·cases aa
def ado (off:Nat):∀(l:List Value) (k:Nat) (cs:Array Value),off+k+D l<=cs.size ->
  (l.zipIdx k).foldl (λ(cs:Array Value) (p:Value×Nat)=>cs.setIfInBounds (off+p.2) p.1) cs=(cs.toList.take (off+k)++l++cs.toList.drop (off+k+D l)).toArray
 | [],k,cs,_=>by simp
 |a::l,k,cs,h=>by
  rw[List.zipIdx_cons,Hm];have cj:off+k<cs.size:=by simp at h;omega
  rw[ado off l (k+1) (cs.setIfInBounds (off+k) a) (by simp at h ⊢;omega)];apply Array.ext';simp only[Array.toList_setIfInBounds];have:=list_seg_step cs.toList (off+k) a l (by simp at h ⊢;omega)
  simpa [qA] using this
def P7 {place:Nat->Option (Nat×Nat)}{ρ:Operand->Value}{tm:Nat->O}(hρ:∀x y,dI x=some y->bp w a2 B (a9 tm y) (ρ x)):
  ∀(ps:List (Nat×Operand)) (eP:List (Nat×Nat×bI)) (cs r:List O) (vs:Array Value),partsOf place ps=some eP->dg w a2 B cs vs.toList->kJ (a9 tm) cs eP=some r ->
   ∃oN:Array Value,Instr.fill place vs (ps.map λp=>(p.1,ρ p.2))=some oN/\dg w a2 B r oN.toList
 | [],eP,cs,r,vs,aF,b0,h=>by
  simp[partsOf] at aF;subst aF;simp[kJ] at h;subst h;exact⟨vs,rfl,b0⟩
 |(i,x)::ps,eP,cs,r,vs,aF,b0,h=>by
  simp only[partsOf,kr,hi,ho,ek,cl] at aF;obtain⟨q,aY,arv,BU,rfl⟩:=aF;obtain⟨⟨o,s⟩,nD,y,al,rfl⟩:=aY;simp only[kJ] at h
  split at h
  ·rename_i H;obtain⟨au,F,G⟩:=H;have vy:=hρ x y al;have arw:a9 tm y ≠ .undef:=λe=>by rw[e] at au;simp[O.known] at au
   ·have mC:=dg.Wh vy arw;have e6:(ρ x).cells.size=s:=by have:=mC.1;simp at this;omega
    have K9:o+s<=vs.size:=by have:=b0.1;simp at this;omega
    have iW:=ado o (ρ x).cells.toList 0 vs (by simp[e6];exact K9);simp only[nE,Array.length_toList] at iW;have Wn:=b0.k6 mC o;obtain⟨oN,aK,BV⟩:=P7 hρ ps arv _ r ((vs.toList.take o++(ρ x).cells.toList++vs.toList.drop (o+(ρ x).cells.size)).toArray) BU (by simpa using Wn) h;refine⟨oN,?_,BV⟩;simp only[eu,Instr.fill,nD];rw[ae (by simp[e6];omega)]
    have aV:(ρ x).cells.zipIdx.foldl (λcs (p:Value×Nat)=>cs.setIfInBounds (o+p.2) p.1) vs=(vs.toList.take o++(ρ x).cells.toList++vs.toList.drop (o+(ρ x).cells.size)).toArray:=by
     rw[<-Array.foldl_toList,Array.toList_zipIdx];exact iW
    rw[<-aK]
    congr 1
  ·cases h
end
section
variable {P:Program} {A:Nat->Prop} {w:World} {B:e7} {mem:Mem}
def Ea {a2:Nat->Prop}{t:TypeId}{z:List O}(h:zeroOf P t=some z):∃i iX,P.info? t=some i/\i.zero=some iX/\dg w a2 B z iX.cells.toList:=by
 simp only[zeroOf,ek] at h;obtain⟨iX,⟨i,J,aV⟩,hm⟩:=h;obtain⟨F,G⟩:=oM hm;exact⟨i,iX,J,aV,by simp[F],λj m v arx La=>Wf (G j v m La arx)⟩
def Lb {t:TypeId}{i:TypeInfo}{iX:Value}(J:P.info? t=some i)(aV:i.zero=some iX):(zeroValue t).run P w=.ok iX w:=by
 simp[zeroValue,typeInfo,J,aV]
def adp {t:TypeId}{i:TypeInfo}{n:Nat}(J:P.info? t=some i)(X:gn P t=some n):i.size=n:=by
 simpa [gn,J] using X
def adq {t:TypeId}{i:TypeInfo}{n:Nat}(J:P.info? t=some i)(X:G9 P t=some n):i.bytes=n:=by
 simpa [G9,J] using X
def P8 {z:Array Value}(au:0<z.size):∀n,((Array.range (n*z.size)).map (z[·%z.size]!)).toList=(dH n z.toList).flatten
 |0=>by simp
 |n+1=>by
  have av:=P8 au n;apply pY;intro i
  have az:∀m i,((Array.range (m*z.size)).map (z[·%z.size]!)).toList[i]?=if i<m*z.size then some (z[i%z.size]!) else none:=by
   intro m i;rw[Array.getElem?_toList,Array.getElem?_map]
   by_cases J:i<m*z.size
   ·rw[ab J,Array.getElem?_range];simp[J]
   ·rw[ae J,Array.getElem?_range];simp[J]
  rw[az,List.replicate_succ',List.flatten_append,Hg,<-av];have el:((Array.range (n*z.size)).map (z[·%z.size]!)).toList.length=n*z.size:=by simp
  rw[el];have hmul:(n+1)*z.size=n*z.size+z.size:=by rw[qs,BJ]
  by_cases J:i<n*z.size
  ·rw[ab J,ab (by omega),az,ab J]
  ·rw[ae J]
   by_cases ob:i<(n+1)*z.size
   ·rw[ab ob];have aq:i-n*z.size<z.size:=by omega
    have Wo:i%z.size=i-n*z.size:=by
     have e:i=(i-n*z.size)+z.size*n:=by have:=Nat.mul_comm n z.size;omega
     have aD:((i-n*z.size)+z.size*n)%z.size=i-n*z.size:=by rw[Nat.add_mul_mod_self_left,Nat.mod_eq_of_lt aq]
     rwa [<-e] at aD
    rw[Wo];simp[aq]
   ·rw[ae ob]
    symm
    rw[mB];simp;omega
def dg.replicate {a2:Nat->Prop}{z:List O}{adr:List Value}(h:dg w a2 B z adr):∀n,dg w a2 B (dH n z).flatten (dH n adr).flatten
 |0=>by simpa using dg.nil
 |n+1=>by
  rw[qC,k5,qC,k5];exact h.append (dg.replicate h n)
def dg.rK {cs:List O}{vs:List Value}{aT:World}{br:e7}(t:Trans A w B aT br)(h:dg w (b4 A B) B cs vs):dg aT (b4 A br) br cs vs :=
 ⟨h.1,λi m v F G=>(h.2 i m v F G).rK t⟩
def Lc {cs:List O}(bR:fs A w B mem)(w1:World)(f:Fr (λ_=>False) w w1)(aV:w1.heap.size=w.heap.size)(k:Key)(vs:Array Value)(T:TypeId)(ak:(D cs)<=vs.size)
  (b0:dg w (b4 A B) B cs (vs.toList.take (D cs))):eE A w B (w1.alloc (.cells vs T)) (gD B k ⟨bQ mem k,some w.heap.size,vs.size⟩) (a4 mem k (bQ mem k) cs) :=
 eE.alloc bR w1 f aV k vs T ak λi m hm=>by
  obtain⟨v,aA,aa⟩:=b0.get hm;rw[zX] at aA
  split at aA
  ·exact⟨v,by simpa using aA,aa⟩
  ·cases aA
def ary {t:TypeId}{z:List O}(k:Key)(bR:fs A w B mem)(aV:zeroOf P t=some z):
  ∃v aT br,(Instr.alloc t true (.tuple #[])).run P w=.ok v aT/\eE A w B aT br (a4 mem k (bQ mem k) z)/\bp aT (b4 A br) br (.ptr k (bQ mem k) 0) v:=by
 obtain⟨i,iX,J,tV,b0⟩:=Ea (P:=P) (w:=w) (B:=B) (a2:=b4 A B) aV;have ak:(D z)=iX.cells.size:=by have:=b0.1;simp at this;omega
 refine⟨.pointer (some ⟨w.heap.size,0,none⟩),w.alloc (.cells iX.cells t),_,?_,Lc bR w (Fr.refl _ _) rfl k iX.cells t (by omega) (by rw[dt (by simp;omega)];exact b0),?_⟩
 ·simp[Instr.alloc,Lb J tV,newVar,newRow]
 ·exact .ptr (hn _ _ _) (bM _) ⟨_,rfl,λ_=>rfl⟩
def arz {t:TypeId}{m:O}{u:Value}(k:Key)(bR:fs A w B mem)(hu:bp w (b4 A B) B m u)(I:m.known=true):
  ∃v aT br,(Instr.box t u).run P w=.ok v aT/\eE A w B aT br (a4 mem k (bQ mem k) m.cells)/\bp aT (b4 A br) br (.ptr k (bQ mem k) 0) v:=by
 have b0:=dg.Wh hu (λe=>by rw[e] at I;simp[O.known] at I);have ak:(D m.cells)=u.cells.size:=by have:=b0.1;simp at this;omega
 refine⟨.pointer (some ⟨w.heap.size,0,none⟩),w.alloc (.cells u.cells t),_,?_,Lc bR w (Fr.refl _ _) rfl k u.cells t (by omega) (by rw[dt (by simp;omega)];exact b0),?_⟩
 ·simp[Instr.box,newVar,newRow]
 ·exact .ptr (hn _ _ _) (bM _) ⟨_,rfl,λ_=>rfl⟩
def arA {t e:TypeId}{z:List O}{bytes n c:Nat}{dw cv:O}{oc jr:Value}{r:O}{j3:Option (Key×Nat×List O)}(k:Key)(bR:fs A w B mem)(bz:P.underlying t=some (.slice e))(aV:zeroOf P e=some z)(X:gn P e=some (D z))
  (ad:G9 P e=some bytes) (F:idx dw=some n) (G:idx cv=some c) (eU:bp w (b4 A B) B dw oc) (ey:bp w (b4 A B) B cv jr) (au:0<D z) (h:GZ k (bQ mem k) z bytes n c=some (r,j3)) :
  ∃v aT br,(Instr.makeSlice t oc jr).run P w=.ok v aT/\eE A w B aT br (ij mem j3)/\bp aT (b4 A br) br r v:=by
 unfold GZ at h
 split at h
 ·rename_i H;obtain⟨rfl,Hn,w8⟩:=H
  cases h;obtain⟨bS,rfl⟩:=Hi F eU;obtain⟨cM,rfl⟩:=Hi G ey;obtain⟨i,iX,J,tV,b0⟩:=Ea (P:=P) (w:=w) (B:=B) (a2:=b4 A B) aV;have ak:(D z)=iX.cells.size:=by have:=b0.1;simp at this;omega
  have e6:=adp J X;have Eb:=adq J ad
  have nf:=run_make (P:=P) w t e i iX bz J tV bS cM (n:Int) (n:Int) (by omega) (by omega) (by
   have:((i.bytes*n:Nat):Int)<=281474976710656:=by rw[Eb];omega
   rwa [Int.natCast_mul] at this) (by unfold maxLen at w8;omega)
  simp only[Int.toNat_natCast] at nf
  have ads:(madeCells iX.cells (n*i.size)).toList=(dH n iX.cells.toList).flatten:=by
   rw[e6,ak];exact P8 (by omega) n
  have Ec:(madeCells iX.cells (n*i.size)).size=n*D z:=by rw[size_madeCells,e6]
  have BW:=b0.replicate (n:=n)
  have hlen:(dH n z).flatten.length=n*D z:=by
   have:=BW.1;rw[<-this,<-ads,Array.length_toList,Ec]
  refine⟨_,_,_,nf,Lc bR w (Fr.refl _ _) rfl k _ e (by rw[Ec,hlen];exact bM _) ?_,?_⟩
  ·rw[dt (by rw[Array.length_toList,Ec,hlen];exact bM _),ads];exact BW
  ·refine .ref (hn _ _ _) (bM _) ⟨_,n,rfl,bM _,w8,.inr ⟨_,rfl,λ_=>⟨rfl,?_⟩⟩⟩;simp only[ks];rw[Ec];exact bM _
 ·cases h
def Wp (bR:fs A w B mem){k:Key}{g:Nat}{cs new:List O}{e:mw}{b:Nat}{vs:Array Value}{T:TypeId}{vals:List Value}{off:Nat}(I:mem k=some (g,cs))(he:B k=some e)(ad:e.dr=some b)
  (aX:w.heap[b]?=some (.cells vs T (0,0))) (e6:vs.size=e.size) (ak:(D cs)<=vs.size) (b0:dg w (b4 A B) B cs (vs.toList.take (D cs))) (ca:e.g=g) (Wq:off+D new<=D cs) (lF:dg w (b4 A B) B new vals) :
  eE A w B (w.setRow b (vs.toList.take off++vals++vs.toList.drop (off+D vals)).toArray) B (a4 mem k g (k6 cs off new)):=by
 have Wr:(D vals)=D new:=lF.1
 have Wn:dg w (b4 A B) B (k6 cs off new) ((vs.toList.take off++vals++vs.toList.drop (off+D vals)).take (D cs)):=by
  have F:=b0.k6 lF off
  have az:(vs.toList.take (D cs)).take off++vals++(vs.toList.take (D cs)).drop (off+D vals)=(vs.toList.take off++vals++vs.toList.drop (off+D vals)).take (D cs):=by
   have jH:(D vs.toList)=vs.size:=Array.length_toList;rw[List.take_take,oO (by omega),adn,D8,fO,gE,jH,oO (a:=off) (b:=vs.size) (by omega)];rw[dt (l:=vs.toList.take off++vals) (by rw[fO,gE,jH];omega)]
  rwa [az] at F
 have Ld:(k6 cs off new).length=D cs:=by unfold k6;simp;omega
 have heq:gD B k e=B:=by
  funext j
  unfold gD
  split
  ·rename_i ag;rw[ag,he]
  ·rfl
 have f:Fr (λb=>∃e,B k=some e/\e.dr=some b) w (w.setRow b (vs.toList.take off++vals++vs.toList.drop (off+D vals)).toArray):=by
  refine⟨rfl,rfl,rfl,by simp,λj ag bx=>?_⟩
  exact setRow_other w b j _ (λP9=>bx ⟨e,he,by rw[ad,P9]⟩)
 have:=eE.change (k:=k) (e':=e) (cs:=k6 cs off new) bR f (λaD fr => .inl (by rw[he] at fr;exact mD fr)) (λeB eO => .inr ⟨e,he,eO⟩) (λaH=>by rw[ad] at aH;cases aH) (λeB eO=>by
  rw[ad] at eO
  cases eO;refine⟨_,T,setRow_heap w b vs _ T (0,0) aX,by simp;omega,by rw[Ld];simp;omega,λi m hm=>?_⟩
  obtain⟨v,aA,aa⟩:=Wn.get hm;rw[zX] at aA
  split at aA
  ·exact⟨v,by simpa using aA,aa⟩
  ·cases aA)
 rw[heq,ca] at this;exact this
def arB {t:TypeId}{n:Nat}{dw cv:O}{oc jr:Value}{r:O}{j3:Option (Key×Nat×List O)}(bR:fs A w B mem)(X:gn P t=some n)(eU:bp w (b4 A B) B dw oc)(ey:bp w (b4 A B) B cv jr)
  (h:yp mem n dw cv.cells=some (r,j3)):∃aT,(Instr.storeAt t oc jr).run P w=.ok () aT/\eE A w B aT B (ij mem j3)/\r=.no:=by
 cases dw with
 |ptr k g off =>
  simp only[yp] at h;unfold KX at h
  split at h
  ·rename_i cV cs I
   split at h
   ·rename_i H;obtain⟨rfl,F,G,af⟩:=H
    cases h;obtain⟨e,he,ca,aH,ad⟩:=bR.at_ I
    cases eU with
    |ptr gA K7 aF =>
     rw[he] at gA
     cases gA;obtain⟨b,rfl,jZ⟩:=aF;have jZ:=jZ ca.symm;obtain⟨vs,T,aX,e6,ak,b0⟩:=ad b jZ;have gF:cv ≠ .undef:=λe=>by rw[e] at af;simp[O.cells,O.one] at af
     have mC:=dg.Wh ey gF
     have arC:∀v∈jr.cells.toList,v.oneCell'=true:=by
      intro v aA;obtain⟨i,J,j4⟩:=Le aA;have ku:i<D cv.cells:=by rw[<-mC.1];exact J
      have:=mC.2 i _ _ (bn ku) (bn J);rw[j4] at this;exact adb this (ld.1 af _ (nC ku))
     have aKf:jr.cells.size=n:=by have:=mC.1;simp at this;omega
     have c9:=run_storeCells_at P b off T jr.cells.toList 0 vs w aX (by simp;omega) arC;simp only[nE] at c9;refine⟨_,?_,Wp bR I he jZ aX e6 ak b0 ca (by omega) mC,rfl⟩;have bE:¬ (jr.cells.size≠n):=by omega
     simp only[Instr.storeAt,Instr.sureAddr,storeVar,Sem.run_bind,Sem.run_pure,Result.andThen_ok,vr X];rw[ae bE];exact c9
   ·cases h
  ·cases h
 |_=>simp[yp] at h
end
section
variable {P:Program} {A:Nat->Prop} {w:World} {B:e7} {mem:Mem}
def Qa (sz:Nat):∀(n:Nat) (l:List Data),(chunk sz n l).length=n
 |0,_=>rfl
 |n+1,l=>by simp[chunk,Qa sz n]
def Qb (sz:Nat):∀(n:Nat) (l:List Data),D l=n*sz->∀e∈chunk sz n l,D e=sz
 |0,_,_,e,he=>by simp[chunk] at he
 |n+1,l,ak,e,he=>by
  have hmul:(n+1)*sz=n*sz+sz:=by rw[qs,BJ]
  simp only[chunk,List.mem_cons] at he;rcases he with rfl|he
  ·simp;omega
  ·exact Qb sz n _ (by simp;omega) e he
def Qc (sz:Nat):∀(n:Nat) (l:List Data),D l=n*sz->(chunk sz n l).flatten=l
 |0,l,ak=>by simp at ak;simp[chunk,ak]
 |n+1,l,ak=>by
  have hmul:(n+1)*sz=n*sz+sz:=by rw[qs,BJ]
  simp only[chunk,k5];rw[Qc sz n _ (by simp;omega),List.take_append_drop]
def adt {a2:Nat->Prop}{m:O}{d:Data}{v:Value}(h:vl m=some d)(aA:bp w a2 B m v):Den w a2 d v:=by
 unfold vl at h
 split at h<;>cases h
 ·cases aA with
  |M h=>exact h
 ·cases aA with
  |nil=>exact .l0
def arD {ds:List Data}{vs:Array Value}{T:TypeId}{n sz:Nat}(bR:fs A w B mem)(aT:World)(hw:aT=w.alloc (.cells vs T))(ak:(D ds)=n*sz)(aA:vs.size=n*sz)(hm:n<=maxLen)
  (Y:∀(i:Nat) (d:Data) (v:Value),ds[i]?=some d->vs[i]?=some v->Den w (b4 A B) d v):Den aT (b4 A B) (.ay (chunk sz n ds)) (.slice (some ⟨w.heap.size,0,none⟩) n n):=by
 have ok:eE A w B aT B mem:=by rw[hw];exact .still bR ((Fr.refl _ _).alloc _)
 have ee:=Qa sz n ds
 have h:=Den.ay (w:=aT) (a2:=b4 A B) (es:=chunk sz n ds) (b:=w.heap.size) (off:=0) (c:=n) (sz:=sz) (λi=>vs.getD i undef) (by rw[ee];exact bM _) (by rw[ee];exact hm)
  (by rw[hw];simp) (λbx=>by
   rcases bx with bx|bx
   ·have:=bR.w0 bx;omega
   ·have:=bR.lt _ bx;omega) (Qb sz n ds ak)
  (λi J=>by
   rw[ee] at J;rw[hw,ks];have:i<vs.size:=by omega
   simp[this])
  (λi d k8=>by
   rw[Qc sz n ds ak] at k8;have aq:i<D ds:=(dK.1 k8).1;have lg:i<vs.size:=by omega
   have:vs.getD i undef=vs[i]:=by simp[lg]
   simp only[this];exact (Y i d _ k8 (Array.getElem?_eq_getElem lg)).trans ok.m9)
 rw[ee] at h;exact h
def adu {t e:TypeId}{z r:List O}{sz len:Nat}{ps:List (Nat×Operand)}{eP:List (Nat×Nat×bI)}{ρ:Operand->Value}{tm:Nat->O}{a2:Nat->Prop}(bz:P.underlying t=some (.slice e))(aV:zeroOf P e=some z)
  (X:gn P e=some sz) (w9:(D z)=sz) (au:0<sz) (ak:len*sz<=16777216) (aF:partsOf (λi=>some (i*sz,sz)) ps=some eP) (hρ:∀x y,dI x=some y->bp w a2 B (a9 tm y) (ρ x))
  (h:kJ (a9 tm) (dH len z).flatten eP=some r) :
  ∃vs:Array Value,(Instr.buildSlice t len (ps.map λp=>(p.1,ρ p.2)).toArray).run P w=.ok (.slice (some ⟨w.heap.size,0,none⟩) len len) (w.alloc (.cells vs e))/\dg w a2 B r vs.toList:=by
 obtain⟨i,iX,J,tV,b0⟩:=Ea (P:=P) (w:=w) (B:=B) (a2:=a2) aV;have Ho:iX.cells.size=sz:=by have:=b0.1;simp at this;omega
 have adv:=P8 (z:=iX.cells) (by omega) len;rw[Ho] at adv;have BW:=b0.replicate (n:=len);rw[<-adv] at BW;obtain⟨oN,aK,aa⟩:=P7 (place:=λi=>some (i*sz,sz)) hρ ps eP _ r _ aF BW h;refine⟨oN,?_,aa⟩;have aH:¬ (len*sz>2^24):=by omega
 by_cases kL:len*sz=0
 ·have bZ:((Array.range (len*sz)).map (iX.cells[·%sz]!))=#[]:=by rw[kL];simp[Array.range_zero']
  have arE:Instr.fill (λi=>some (i*sz,sz)) #[] (ps.map λp=>(p.1,ρ p.2))=some oN:=by rw[<-bZ];exact aK
  simp only[Instr.buildSlice,Sem.run_bind,run_underlying bz,Result.andThen_ok,vr X];rw[ae aH];simp only[kL,if_true,Sem.run_bind,Sem.run_pure,Result.andThen_ok];simp[arE,newRow,Array.range_zero']
 ·simp only[Instr.buildSlice,Sem.run_bind,run_underlying bz,Result.andThen_ok,vr X];rw[ae aH];simp only[kL,if_false,Sem.run_bind,Sem.run_pure,Result.andThen_ok,Lb J tV,Ho];simp[aK,newRow]
def arF {t e:TypeId}{z:List O}{sz len:Nat}{ps:List (Nat×Operand)}{eP:List (Nat×Nat×bI)}{ρ:Operand->Value}{tm:Nat->O}{r:O}(bR:fs A w B mem)(bz:P.underlying t=some (.slice e))(aV:zeroOf P e=some z)
  (X:gn P e=some sz) (w9:(D z)=sz) (au:0<sz) (ak:len*sz<=16777216) (aF:partsOf (λi=>some (i*sz,sz)) ps=some eP) (hρ:∀x y,dI x=some y->bp w (b4 A B) B (a9 tm y) (ρ x))
  (h:KI (dH len z).flatten sz len (kJ (a9 tm) (dH len z).flatten eP)=some r) :
  ∃v aT,(Instr.buildSlice t len (ps.map λp=>(p.1,ρ p.2)).toArray).run P w=.ok v aT/\eE A w B aT B mem/\bp aT (b4 A B) B r v:=by
 unfold KI at h
 split at h
 ·rename_i hlen
  cases aK:kJ (a9 tm) (dH len z).flatten eP with
  |none=>rw[aK] at h;cases h
  |some cs =>
   rw[aK] at h;simp only[dS] at h;obtain⟨ds,gp,rfl⟩:=h;obtain⟨vs,nf,b0⟩:=adu (P:=P) (B:=B) bz aV X w9 au ak aF hρ aK;obtain⟨F,G⟩:=oM gp
   have ee:(D cs)=len*sz:=by
    have:∀(eP:List (Nat×Nat×bI)) (a r:List O),kJ (a9 tm) a eP=some r->(D r)=D a:=by
     intro eP
     induction eP with
     |nil=>intro a r h;simp[kJ] at h;rw[h]
     |cons q eP av =>
      intro a r h;obtain⟨o,s,x⟩:=q;simp only[kJ] at h
      split at h
      ·rename_i H;rw[av _ _ h];unfold k6;simp;omega
      ·cases h
    rw[this _ _ _ aK,hlen]
   have aW:vs.size=len*sz:=by have:=b0.1;simp at this;omega
   refine⟨_,_,nf,.still bR ((Fr.refl _ _).alloc _),.M (arD bR _ rfl (by omega) aW ?_ λi d v Y aA=>?_)⟩
   ·have:len<=len*sz:=Lf _ au;unfold maxLen;omega
   ·have aq:i<D cs:=by have:=(dK.1 Y).1;omega
    have kM:=bn aq;exact adt (G i _ d kM Y) (b0.2 i _ v kM (by simpa using aA))
 ·cases h
def arG {t e:TypeId}{z:List O}{sz len:Nat}{ps:List (Nat×Operand)}{eP:List (Nat×Nat×bI)}{ρ:Operand->Value}{tm:Nat->O}{r:O}{j3:Option (Key×Nat×List O)}(k:Key)(bR:fs A w B mem)(bz:P.underlying t=some (.slice e))(aV:zeroOf P e=some z)
  (X:gn P e=some sz) (w9:(D z)=sz) (au:0<sz) (ak:len*sz<=16777216) (aF:partsOf (λi=>some (i*sz,sz)) ps=some eP) (hρ:∀x y,dI x=some y->bp w (b4 A B) B (a9 tm y) (ρ x))
  (h:GY k (bQ mem k) (dH len z).flatten sz len (kJ (a9 tm) (dH len z).flatten eP)=some (r,j3)) :
  ∃v aT br,(Instr.buildSlice t len (ps.map λp=>(p.1,ρ p.2)).toArray).run P w=.ok v aT/\eE A w B aT br (ij mem j3)/\bp aT (b4 A br) br r v:=by
 unfold GY at h
 split at h
 ·rename_i hlen
  cases aK:kJ (a9 tm) (dH len z).flatten eP with
  |none=>rw[aK] at h;cases h
  |some cs =>
   rw[aK] at h
   cases h;obtain⟨vs,nf,b0⟩:=adu (P:=P) (B:=B) bz aV X w9 au ak aF hρ aK
   have ee:(D cs)=len*sz:=by
    have:∀(eP:List (Nat×Nat×bI)) (a r:List O),kJ (a9 tm) a eP=some r->(D r)=D a:=by
     intro eP
     induction eP with
     |nil=>intro a r h;simp[kJ] at h;rw[h]
     |cons q eP av =>
      intro a r h;obtain⟨o,s,x⟩:=q;simp only[kJ] at h
      split at h
      ·rename_i H;rw[av _ _ h];unfold k6;simp;omega
      ·cases h
    rw[this _ _ _ aK,hlen]
   have aW:vs.size=D cs:=by have:=b0.1;simp at this;omega
   refine⟨_,_,_,nf,Lc bR w (Fr.refl _ _) rfl k vs e (by omega) (by rw[dt (by simp;omega)];exact b0),?_⟩
   have h4:len<=maxLen:=by
    have:len<=len*sz:=Lf _ au;unfold maxLen;omega
   exact .ref (hn _ _ _) (bM _) ⟨_,len,rfl,bM _,h4,.inr ⟨_,rfl,λ_=>⟨rfl,by simp only[ks];omega⟩⟩⟩
 ·cases h
def adw {m:O}{sz n:Nat}{new:List O}{v:Value}(bR:fs A w B mem)(aA:bp w (b4 A B) B m v)(h:qv mem sz m=some (n,new)):
  ∃a c vals,v=.slice a n c/\dg w (b4 A B) B new vals/\D vals=n*sz/\(0<n->∃b off,a=some ⟨b,off,none⟩/\eF w b off vals):=by
 unfold qv at h
 split at h
 ·split at h
  ·rename_i es tW
   cases h;have tW:=Wl tW
   cases aA with
   |M Y =>
    cases Y with
    |l0=>exact⟨_,_,[],rfl,by simpa using dg.nil,by simp,λh=>by simp at h⟩
    | @ay es b off c et val ak hm ad fN e6 H BT =>
     have g2:=PL tW;rcases jG (D es) with au|au
     ·have:es=[]:=tX au;subst this;exact⟨_,_,[],rfl,by simpa using dg.nil,by simp,λh=>by simp at h⟩
     ·have K8:et=sz:=by
       have kv:=nC (l:=es) (n:=0) au;rw[<-e6 _ kv,tW _ kv]
      subst K8;refine⟨_,_,(dD (D es*et)).map val,rfl,?_,by simp,λ_=>⟨b,off,rfl,λj u ag=>?_⟩⟩
      ·refine dg.M (by simp[g2]) λi d u F G=>?_;have J:i<D es*et:=by have:=(dK.1 F).1;omega
       rw[bo,vt J] at G;simp only[iY,cl] at G;subst G;exact BT i d F
      ·have J:j<D es*et:=by have:=(dK.1 ag).1;simpa using this
       rw[bo,vt J] at ag;simp only[iY,cl] at ag;subst ag;exact H j J
  ·cases h
 ·cases h
  cases aA with
  |nil=>exact⟨_,_,[],rfl,dg.nil,by simp,λh=>by simp at h⟩
 ·rename_i k g et off len
  split at h
  ·rename_i e6;subst e6
   split at h
   ·rename_i cV cs I
    split at h
    ·rename_i a8;subst a8;simp only[dS,e2] at h;obtain⟨part,yz,rfl,rfl⟩:=h;obtain⟨ak,rfl,aH⟩:=Hh yz
     cases aA with
     |ref he a8 aa =>
      obtain⟨e,gA,ca,D6,ad⟩:=bR.at_ I;rw[he] at gA
      cases gA;obtain⟨a,cap,rfl,F,G,af⟩:=aa;rcases af with af|⟨b,rfl,aS⟩
      ·have:len=0:=by omega
       subst this;exact⟨_,_,[],rfl,by simpa using dg.nil,by simp,λh=>by omega⟩
      ·obtain⟨bt,b2⟩:=aS ca.symm;obtain⟨vs,T,aX,aV,hle,b0⟩:=ad b bt;refine⟨_,_,((vs.toList.take (D cs)).drop off).take (len*et),rfl,(b0.drop off).take _,by have:=((b0.drop off).take (len*et)).1;omega,λ_=>⟨b,off,rfl,?_⟩⟩
       have:=(((eF.row aX).take (D cs)).add off).take (len*et)
       simpa using this
    ·cases h
   ·cases h
  ·cases h
 ·cases h
def Qd {sz n c:Nat}{a:Option Addr}{vals:List Value}(ak:(D vals)=n*sz)(bH:0<n->∃b off,a=some ⟨b,off,none⟩/\eF w b off vals)(aT:World)(hw:aT.heap=w.heap):
  (Builtin.firstCells sz n (.slice a n c)).run P aT = .ok vals.toArray aT:=by
 have H:∀p,aT.cell? p=w.cell? p:=λp=>by simp[World.cell?,hw]
 rcases jG n with au|au
 ·subst au;have:vals=[]:=tX (by simpa using ak);subst this
  cases a with
  |none=>simp[Builtin.firstCells]
  |some a=>simp[Builtin.firstCells,loadCells,loadCellsFrom]
 ·obtain⟨b,off,rfl,z1⟩:=bH au;exact run_firstCells_some aT sz n _ n c vals ak λj v ag=>by rw[zY,H];exact z1 j v ag
def dg.Ws {a2:Nat->Prop}{cs:List O}{vs:List Value}(h:dg w a2 B cs vs)(F:cs.all O.one=true):∀v∈vs,v.oneCell'=true:=by
 intro v aA;obtain⟨i,J,j4⟩:=Le aA;have ku:i<D cs:=by rw[<-h.1];exact J
 have:=h.2 i _ _ (bn ku) (bn J);rw[j4] at this;exact adb this (ld.1 F _ (nC ku))
def Wt {t ty e:TypeId}{sz pe xa n c:Nat}{base a:Option Addr}{vals:List Value}(bz:P.underlying t=some (.slice e))(X:gn P e=some sz)(yA:pe+n<=xa)
  (aK:(Builtin.firstCells sz n (.slice a n c)).run P w=.ok vals.toArray w) (aT:World)
  (c9:∀b,base=some b->(storeCells (b.add (pe*sz)) vals).run P w=.ok () aT) (aH:base=none->aT=w) :
  (Builtin.append_ #[t,t] ty #[.slice base pe xa,.slice a n c]).run P w=.ok (.slice base (pe+n) xa) aT:=by
 simp only[gn,dS] at X;obtain⟨i,J,rfl⟩:=X
 cases base with
 |none=>simp[Builtin.append_,run_underlying bz,sizeOf,typeInfo,J,Builtin.lenOf,yA,aK,aH rfl]
 |some b=>simp[Builtin.append_,run_underlying bz,sizeOf,typeInfo,J,Builtin.lenOf,yA,aK,c9 b rfl]
def arH {t ty e:TypeId}{sz pe xa n c bytes:Nat}{base a:Option Addr}{pZ vals:List Value}{i:TypeInfo}{z:Value}(bz:P.underlying t=some (.slice e))(J:P.info? e=some i)(aV:i.zero=some z)(e6:i.size=sz)(Eb:i.bytes=bytes)
  (yA:xa<pe+n) (vu:∀aT,aT.heap=w.heap->(Builtin.firstCells sz pe (.slice base pe xa)).run P aT = .ok pZ.toArray aT) (aK:∀aT,aT.heap=w.heap->(Builtin.firstCells sz n (.slice a n c)).run P aT = .ok vals.toArray aT)
  (arI:pe+n<=maxLen) (ad:(pe+n)*bytes<=140737488355328) :
  (Builtin.append_ #[t,t] ty #[.slice base pe xa,.slice a n c]).run P w =
   .ok (.slice (some ⟨w.heap.size,0,none⟩) (pe+n) (grownCap w (pe+n) xa e))
    (w.drew.alloc (.cells (pZ.toArray++vals.toArray++Builtin.zeroCells z.cells (grownCap w (pe+n) xa e-(pe+n))) e)):=by
 subst e6;subst Eb
 have aH:¬ (pe+n<=xa):=by omega
 have arJ:¬ (9223372036854775807<((pe:Int)+(n:Int))):=by unfold maxLen at arI;omega
 have K9:=growslice_fits yA ad;have arK:¬ (281474976710656<Builtin.nextslicecap (pe+n) xa*i.bytes):=by omega
 have F:=vu w.drew rfl;have G:=aK w.drew rfl;simp[Builtin.append_,run_underlying bz,sizeOf,typeInfo,zeroValue,J,aV,Builtin.lenOf,aH,arJ,arK,Question.forced,F,G,newRow,grownCap,<-List.append_toArray,Array.append_assoc]
def arL {t ty e:TypeId}{z:List O}{bytes n:Nat}{dw cv:O}{oc jr:Value}{new:List O}{r:O}{j3:Option (Key×Nat×List O)}(k:Key)(bR:fs A w B mem)(bz:P.underlying t=some (.slice e))(aV:zeroOf P e=some z)(X:gn P e=some (D z))
  (Eb:G9 P e=some bytes) (au:0<D z) (eU:bp w (b4 A B) B dw oc) (ey:bp w (b4 A B) B cv jr) (fo:qv mem (D z) cv=some (n,new)) (h:rM mem k z bytes dw (some (n,new))=some (r,j3)) :
  ∃v aT br,(Builtin.append_ #[t,t] ty #[oc,jr]).run P w=.ok v aT/\eE A w B aT br (ij mem j3)/\bp aT (b4 A br) br r v:=by
 obtain⟨cY,c2,vals,rfl,b0,jH,bH⟩:=adw bR ey fo;obtain⟨i,iX,J,tV,arM⟩:=Ea (P:=P) (w:=w) (B:=B) (a2:=b4 A B) aV;have e6:=adp J X;have jZ:=adq J Eb;have Ho:iX.cells.size=D z:=by have:=arM.1;simp at this;omega
 have h6:(D new)=n*D z:=by rw[<-b0.1,jH]
 have aK:=λaT hw=>Qd (P:=P) (w:=w) (c:=c2) jH bH aT hw
 -- a new block
 have grow:∀(base:Option Addr) (len cap:Nat) (g:Nat) (k':Key) (cs:List O) (pZ:List Value),cap<len+n->(∀aT,aT.heap=w.heap->(Builtin.firstCells (D z) len (.slice base len cap)).run P aT = .ok pZ.toArray aT) ->
   dg w (b4 A B) B cs pZ->(D cs)=len*(D z)->len+n<=maxLen->(len+n)*bytes<=140737488355328->g=bQ mem k' ->
   ∃v aT br,(Builtin.append_ #[t,t] ty #[.slice base len cap,.slice cY n c2]).run P w=.ok v aT/\eE A w B aT br (a4 mem k' g (cs++new))/\bp aT (b4 A br) br (.ref k' g (D z) 0 (len+n)) v:=by
  intro base len cap g k' cs pZ yA vu kt ee w8 Hn a8;subst a8;have nf:=arH (P:=P) (ty:=ty) bz J tV e6 jZ yA vu aK w8 Hn;have ca:=grownCap_ge w (len+n) cap e;have hle:=grownCap_le_maxLen w (len+n) cap e w8
  have Ec:(pZ.toArray++vals.toArray++Builtin.zeroCells iX.cells (grownCap w (len+n) cap e-(len+n))).size=grownCap w (len+n) cap e*D z:=by
   have Hp:=kt.1;simp only[Array.size_append,List.size_toArray,size_zeroCells,Ho,Hp,ee,jH];rw[<-qs,<-qs]
   congr 1
   omega
  have en:=kt.append b0;have hmul:(len+n)*D z<=grownCap w (len+n) cap e*D z:=sN _ ca;have nF:(cs++new).length=(len+n)*D z:=by rw[fO,ee,h6,qs]
  refine⟨_,_,_,nf,Lc (cs:=cs++new) bR w.drew ((Fr.refl _ _).drew _) rfl k' _ e (by rw[Ec,nF];exact hmul) ?_,?_⟩
  ·have:(pZ.toArray++vals.toArray++Builtin.zeroCells iX.cells (grownCap w (len+n) cap e-(len+n))).toList.take (cs++new).length=pZ++vals:=by
    simp only[Array.toList_append,List.toList_toArray];rw[List.take_append_of_le_length (by rw[en.1];exact bM _),dt (by rw[en.1];exact bM _)]
   rw[this];exact en
  ·refine .ref (hn _ _ _) (bM _) ⟨_,_,rfl,ca,hle,.inr ⟨_,rfl,λ_=>⟨rfl,?_⟩⟩⟩;simp only[ks];rw[Ec];exact bM _
 cases dw with
 |nil =>
  simp only[rM] at h
  split at h
  ·rename_i H;obtain⟨Hn,w8,yB⟩:=H
   cases h
   cases eU with
   | @nil cH =>
    rcases jG n with od|od
    ·subst od;have Hq:vals=[]:=tX (by simpa using jH);have Wu:new=[]:=tX (by simpa using h6);subst Hq;subst Wu
     refine⟨_,_,_,Wt (P:=P) (ty:=ty) bz X (bM _) (aK w rfl) w (λb _=>by simp[storeCells]) (λ_=>rfl),eE.yx bR k,?_⟩;exact .ref (hn _ _ _) (bM _) ⟨_,0,rfl,bM _,fy _,.inl rfl⟩
    ·have:=grow cH 0 0 (bQ mem k) k [] [] (by omega) (λaT hw=>by
      have:=Qd (P:=P) (w:=w) (sz:=D z) (n:=0) (c:=0) (a:=cH) (vals:=[]) (by simp) (λh=>by omega) aT hw;exact this) dg.nil (by simp) (by omega) (by simpa using Hn) rfl
     simpa [ij] using this
  ·cases h
 |ref k' g et off len =>
  simp only[rM] at h
  split at h
  ·rename_i H;obtain⟨rfl,rfl⟩:=H;unfold mA at h
   split at h
   ·rename_i cV cs I
    split at h
    ·rename_i H;obtain⟨rfl,hlen,Hn,w8,yB⟩:=H
     cases h;obtain⟨Ed,p0,ca,D6,ad⟩:=bR.at_ I;have vz:cV+1=bQ mem k':=by simp[bQ,I]
     cases eU with
     |ref he a8 aa =>
      rw[p0] at he
      cases he;obtain⟨cH,cap,rfl,F,G,af⟩:=aa
      have hold:∃pZ,dg w (b4 A B) B (cs.take (len*D z)) pZ/\D pZ=len*D z/\(0<len->∃b off,cH=some ⟨b,off,none⟩/\eF w b off pZ):=by
       rcases af with af|⟨b,rfl,aS⟩
       ·have:len=0:=by omega
        subst this;exact⟨[],by simpa using dg.nil,by simp,λh=>by omega⟩
       ·obtain⟨bt,b2⟩:=aS ca.symm;obtain⟨vs,T,aX,Ee,hle,z2⟩:=ad b bt;refine⟨(vs.toList.take (D cs)).take (len*D z),z2.take _,by have:=(z2.take (len*D z)).1;rw[this];simp;omega,λ_=>⟨b,0,rfl,((eF.row aX).take _).take _⟩⟩
      obtain⟨pZ,adx,arN,ady⟩:=hold
      by_cases yA:len+n<=cap
      ·rcases af with af|⟨b,rfl,aS⟩
       ·-- no room, and nothing comes
        have js:len=0:=by omega
        have od:n=0:=by omega
        subst js;subst od;subst af
        have Hq:vals=[]:=tX (by simpa using jH);have Wu:new=[]:=tX (by simpa using h6);subst Hq;subst Wu
        refine⟨_,_,gD B k' ⟨bQ mem k',none,0⟩,Wt (P:=P) (ty:=ty) bz X (bM _) (aK w rfl) w (λb _=>by simp[storeCells]) (λ_=>rfl),?_,?_⟩
        ·have:=eE.yx bR k'
         simpa [ij,vz] using this
        ·rw[vz];exact .ref (hn _ _ _) (bM _) ⟨_,0,rfl,bM _,fy _,.inl rfl⟩
       ·obtain⟨bt,b2⟩:=aS ca.symm;obtain⟨vs,T,aX,Ee,hle,z2⟩:=ad b bt;have hmul:(len+n)*D z<=cap*D z:=sN _ yA;have adz:(len+n)*D z=len*D z+n*D z:=qs _ _ _;have c9:=run_storeCells_at P b (len*D z) T vals 0 vs w aX (by omega) (b0.Ws yB);simp only[nE] at c9
        have Hp:pZ=vs.toList.take (len*D z):=by
         apply pY;intro j;rcases iD j (len*D z) with ag|ag
         ·have h5:0<len:=by
           rcases jG len with h|h
           ·subst h;simp at ag
           ·exact h
          obtain⟨fk,aKg,adA,Qe⟩:=ady h5;simp only[cl,Addr.mk.injEq,and_true] at adA;obtain⟨rfl,rfl⟩:=adA;have vA:j<D pZ:=by omega
          have qB:=Qe j _ (bn vA);rw[ks,cell_of_row w b j vs T (0,0) aX] at qB;rw[bn vA,zX,ab ag,<-qB,Array.getElem?_toList]
         ·rw[mB (by omega),zX,ae (by omega)]
        have adB:(vs.toList.take (len*D z)++vals++vs.toList.drop (len*D z+D vals)).toArray.size=Ed.size:=by
         simp;omega
        have f:Fr (λb=>∃e,B k'=some e/\e.dr=some b) w (w.setRow b (vs.toList.take (len*D z)++vals++vs.toList.drop (len*D z+D vals)).toArray):=by
         refine⟨rfl,rfl,rfl,by simp,λj ag bx=>?_⟩
         exact setRow_other w b j _ (λP9=>bx ⟨Ed,p0,by rw[bt,P9]⟩)
        have nF:(cs.take (len*D z)++new).length=len*D z+D vals:=by
         rw[fO,h6,jH,gE,oO hlen]
        have ok:=eE.change (k:=k') (e':=⟨cV+1,some b,Ed.size⟩) (cs:=cs.take (len*D z)++new) bR f
         (λaD fr => .inr (by rw[p0] at fr;cases fr;simp only;omega)) (λeB eO => .inr ⟨Ed,p0,by rw[bt];exact eO⟩) (λaH=>by cases aH) (λeB eO=>by
          cases eO;refine⟨_,T,setRow_heap w b vs _ T (0,0) aX,adB,by rw[adB,nF,jH];omega,λi m hm=>?_⟩
          have en:=adx.append b0;obtain⟨v,aA,aa⟩:=en.get hm;refine⟨v,?_,aa⟩;rw[Hp] at aA;have aq:i<(vs.toList.take (len*D z)++vals).length:=(dK.1 aA).1;simp only[adC];rw[sM aq];exact aA)
        refine⟨_,_,_,Wt (P:=P) (ty:=ty) (a:=cY) (c:=c2) (vals:=vals) bz X yA (aK w rfl) _ (λfk kK=>by
         cases kK;rw[zY,ks];exact c9) (λh=>by cases h),ok,?_⟩
        exact .ref (hn _ _ _) (bM _) ⟨_,cap,rfl,yA,G,.inr ⟨b,rfl,λ_=>⟨rfl,b2⟩⟩⟩
      ·have:=grow cH len cap (cV+1) k' (cs.take (len*D z)) pZ (by omega) (λaT hw=>Qd (P:=P) (w:=w) arN ady aT hw) adx (by rw[gE,oO hlen]) w8 Hn vz;exact this
    ·cases h
   ·cases h
  ·cases h
 |_=>simp[rM] at h
def arO {t u ty e:TypeId}{sz n:Nat}{dw cv:O}{oc jr:Value}{new:List O}{r:O}{j3:Option (Key×Nat×List O)}(bR:fs A w B mem)(bz:P.underlying t=some (.slice e))(X:gn P e=some sz)
  (eU:bp w (b4 A B) B dw oc) (ey:bp w (b4 A B) B cv jr) (fo:qv mem sz cv=some (n,new)) (h:w2 mem sz dw (some (n,new))=some (r,j3)) :
  ∃v aT,(Builtin.copy_ #[t,u] ty #[oc,jr]).run P w=.ok v aT/\eE A w B aT B (ij mem j3)/\bp aT (b4 A B) B r v:=by
 obtain⟨cY,c2,vals,rfl,b0,jH,bH⟩:=adw bR ey fo;have h6:(D new)=n*sz:=by rw[<-b0.1,jH]
 cases dw with
 |ref k g et off len =>
  simp only[w2] at h
  split at h
  ·rename_i e6;subst e6;unfold BP at h
   split at h
   ·rename_i cV cs I
    split at h
    ·rename_i H;obtain⟨rfl,K9,yB⟩:=H
     cases h;obtain⟨Ed,p0,ca,D6,ad⟩:=bR.at_ I;have Qf:Nat.min n len=min n len:=rfl;have hle:min n len<=n:=Nat.min_le_left _ _;have arP:min n len<=len:=Nat.min_le_right _ _;have hD:min n len*et<=n*et:=sN _ hle;have aKh:min n len*et<=len*et:=sN _ arP;have pX:(vals.take (min n len*et)).length=min n len*et:=by rw[gE,jH,oO hD]
     have BX:∀(a:Option Addr) (c:Nat),(0<n->∃b off,a=some ⟨b,off,none⟩/\eF w b off vals)->(Builtin.firstCells et (min n len) (.slice a n c)).run P w=.ok (vals.take (min n len*et)).toArray w:=by
      intro a c bH
      have:=Qd (P:=P) (w:=w) (sz:=et) (n:=min n len) (c:=c) (a:=a) (vals:=vals.take (min n len*et)) pX (λh=>by
       obtain⟨b,off,F,G⟩:=bH (by omega);exact⟨b,off,F,G.take _⟩) w rfl
      cases a with
      |none=>simpa [Builtin.firstCells] using this
      |some a=>simpa [Builtin.firstCells] using this
     cases eU with
     |ref he a8 aa =>
      rw[p0] at he
      cases he;obtain⟨cH,cap,rfl,F,G,af⟩:=aa;simp only[gn,dS] at X;obtain⟨i,J,Wv⟩:=X;rcases af with af|⟨b,rfl,aS⟩
      ·have js:len=0:=by omega
       subst js;have kv:min n 0=0:=Nat.min_zero _;have rT:k6 cs off (new.take (min n 0*et))=cs:=by simp[k6]
       have c9:∀a:Addr,(storeCells a ([]:List Value)).run P w=.ok () w:=λa=>by simp[storeCells]
       have Lg:=BX cY c2 bH;simp only[kv,Nat.zero_mul,l3] at Lg
       have fz:gD B k Ed=B:=by
        funext j;unfold gD;split
        ·rename_i ag;rw[ag,p0]
        ·rfl
       refine⟨.int .i64 0,w,?_,?_,by simpa using bp.ofInt⟩
       ·cases cH with
        |none=>simp[Builtin.copy_,run_underlying bz,Builtin.lenOf,sizeOf,typeInfo,J,Wv,Lg,goInt]
        |some a=>simp[Builtin.copy_,run_underlying bz,Builtin.lenOf,sizeOf,typeInfo,J,Wv,Lg,c9,goInt]
       ·have fL:a4 mem k cV cs=mem:=by
         funext j;unfold a4;split
         ·rename_i ag;rw[ag,I]
         ·rfl
        simp only[ij,rT,fL];exact .refl bR
      ·obtain⟨bt,b2⟩:=aS ca.symm;obtain⟨vs,T,aX,Ee,Lh,z2⟩:=ad b bt;have c9:=run_storeCells_at P b off T (vals.take (min n len*et)) 0 vs w aX (by omega) (λv aA=>b0.Ws yB v (D9 aA));simp only[nE] at c9;refine⟨.int .i64 ((min n len:Nat):Int),_,?_,Wp bR I p0 bt aX Ee Lh z2 ca (by rw[gE,h6,oO hD];omega) (b0.take (min n len*et)),.ofInt⟩;have Lg:=BX cY c2 bH;simp[Builtin.copy_,run_underlying bz,Builtin.lenOf,sizeOf,typeInfo,J,Wv,Qf,Lg,c9,goInt]
    ·cases h
   ·cases h
  ·cases h
 |_=>simp[w2] at h
def arQ {z:Array Value}(au:0<z.size)(n:Nat):(Builtin.zeroCells z n).toList=(dH n z.toList).flatten:=by
 unfold Builtin.zeroCells;exact P8 au n
def arR {t ty e:TypeId}{z:List O}{dw:O}{oc:Value}{r:O}{j3:Option (Key×Nat×List O)}(bR:fs A w B mem)(bz:P.underlying t=some (.slice e))(aV:zeroOf P e=some z)(au:0<D z)
  (eU:bp w (b4 A B) B dw oc) (h:yq mem z dw=some (r,j3)) :
  ∃v aT,(Builtin.clear_ #[t] ty #[oc]).run P w=.ok v aT/\eE A w B aT B (ij mem j3)/\bp aT (b4 A B) B r v:=by
 have adD:∀aT:World,bp aT (b4 A B) B (.cP []) (.tuple #[]):=λaT=>bp.cP (cs:=[]) (vs:=[]) rfl λi d v Y=>by simp at Y
 cases dw with
 |ref k g sz off len =>
  simp only[yq] at h
  split at h
  ·rename_i e6;subst e6;unfold PV at h
   split at h
   ·rename_i cV cs I
    split at h
    ·rename_i H;obtain⟨rfl,K9,yB⟩:=H
     cases h;obtain⟨i,iX,J,tV,b0⟩:=Ea (P:=P) (w:=w) (B:=B) (a2:=b4 A B) aV;have Ho:iX.cells.size=D z:=by have:=b0.1;simp at this;omega
     obtain⟨Ed,p0,ca,D6,ad⟩:=bR.at_ I
     cases eU with
     |ref he a8 aa =>
      rw[p0] at he
      cases he;obtain⟨cH,cap,rfl,F,G,af⟩:=aa;rcases jG len with js|js
      ·subst js;have rT:k6 cs off (dH 0 z).flatten=cs:=by simp[k6]
       have fL:a4 mem k cV cs=mem:=by
        funext j;unfold a4;split
        ·rename_i ag;rw[ag,I]
        ·rfl
       refine⟨.tuple #[],w,?_,?_,adD _⟩
       ·cases cH<;>simp[Builtin.clear_,run_underlying bz]
       ·simp only[ij,rT,fL];exact .refl bR
      ·rcases af with af|⟨b,rfl,aS⟩
       ·omega
       ·obtain⟨bt,b2⟩:=aS ca.symm;obtain⟨vs,T,aX,Ee,Lh,z2⟩:=ad b bt;have BW:=b0.replicate len;have w9:=arQ (z:=iX.cells) (by omega) len;have h6:(dH len z).flatten.length=len*D z:=by simp
        have jH:(dH len iX.cells.toList).flatten.length=len*D z:=by simp[Ho]
        have arS:(dH len z).flatten.all O.one=true:=by
         rw[ld] at yB ⊢;intro x Q;obtain⟨y,al,j5⟩:=adE.1 Q;exact yB x (by rw[<-(List.mem_replicate.1 al).2];exact j5)
        have c9:=run_storeCells_at P b off T (dH len iX.cells.toList).flatten 0 vs w aX (by omega) (BW.Ws arS);simp only[nE] at c9;refine⟨.tuple #[],_,?_,Wp bR I p0 bt aX Ee Lh z2 ca (by omega) BW,adD _⟩;obtain⟨Wm,rfl⟩:∃l,len=l+1:=⟨len-1,by omega⟩
        simp[Builtin.clear_,run_underlying bz,Lb J tV,w9,c9]
    ·cases h
   ·cases h
  ·cases h
 |_=>simp[yq] at h
end
end Go.Mini
namespace Go.Mini
open Go
variable {P:Program} {A:Nat->Prop} {w:World} {B:e7} {mem:Mem}
def arT {t e:TypeId}{sz l h len:Nat}{m r:O}{v:Value}{la lb:Option Value}{bN J:Option O}(bR:fs A w B mem)(bz:P.underlying t=some (.array len e))(X:gn P e=some sz)(aKi:len<=16777216)
  (fB:jW 0 bN=some l) (jq:jW len J=some h) (nd:rS w (b4 A B) B bN la) (l2:rS w (b4 A B) B J lb) (hm:bp w (b4 A B) B m v) (aa:BO mem len sz l h m=some r) :
  ∃z,(Instr.sliceAt t v la lb none).run P w=.ok z w/\bp w (b4 A B) B r z:=by
 unfold BO at aa
 split at aa
 ·rename_i k g off;unfold V8 at aa
  split at aa
  ·rename_i cV cs I
   split at aa
   ·rename_i H;obtain⟨rfl,F,G,af⟩:=H
    cases aa
    cases hm with
    |ptr he a8 aA =>
     obtain⟨b,rfl,ad⟩:=aA;obtain⟨e',gA,ca,aH,fQ⟩:=bR.at_ I;rw[gA] at he
     cases he;have jZ:=ad ca.symm;obtain⟨vs,T,aX,aV,hle,_⟩:=fQ b jZ;refine⟨.slice (some (if len=l then ⟨b,off,none⟩ else ⟨b,off+l*sz,none⟩)) (h-l) (len-l),?_,.ref gA a8 ⟨_,len-l,rfl,by omega,by unfold maxLen;omega,?_⟩⟩
     ·simp[Instr.sliceAt,run_underlying bz,Instr.sureAddr,Wj (P:=P) (w:=w) false fB jq nd l2 F G,vr X]
      split<;>simp[zY]
     ·rcases P6 (eZ F G) with ak|ak
      ·exact .inl (by omega)
      ·refine .inr ⟨b,by rw[ae (by omega)],λ_=>⟨jZ,?_⟩⟩
       have:off+l*sz+(len-l)*sz=off+len*sz:=by
        rw[qA,<-qs]
        congr 2
        omega
       omega
   ·cases aa
  ·cases aa
 ·cases aa
def arU {dJ:List Field}(h:(dJ.all λf=>(gn P f.type).isSome)=true):∃ps:List (Nat×Nat),(dJ.mapM λf=>(do pure (f.offset,<-sizeOf f.type):Sem (Nat×Nat))).run P w=.ok ps w /\
  ∀i:Nat,ps[i]?=vp P dJ.toArray i:=by
 induction dJ with
 |nil=>exact⟨[],by simp,λi=>by simp[vp]⟩
 |cons f r av =>
  simp only[BZ,eQ] at h;obtain⟨ps,F,G⟩:=av h.2;obtain⟨s,X⟩:=adF.1 h.1;refine⟨(f.offset,s)::ps,?_,λi=>?_⟩
  ·simp only[kr,Sem.run_bind,vr X,Result.andThen_ok,Sem.run_pure];rw[F]
   rfl
  ·cases i with
   |zero=>simp[vp,X]
   |succ i =>
    have:=G i;simp only[vp,adC,yC] at this ⊢;exact this
def arV {p q:Nat->Option (Nat×Nat)}(h:∀i,p i=q i)(cs:Array Value)(l:List (Nat×Value)):Instr.fill p cs l=Instr.fill q cs l:=by
 rw[show p=q from funext h]
def arW {t:TypeId}{dJ:Array Field}{z r:List O}{ps:List (Nat×Operand)}{eP:List (Nat×Nat×bI)}{ρ:Operand->Value}{tm:Nat->O}{a2:Nat->Prop}(bz:P.underlying t=some (.struct dJ))(aV:zeroOf P t=some z)
  (aO:(dJ.toList.all λf=>(gn P f.type).isSome)=true) (aF:partsOf (vp P dJ) ps=some eP) (hρ:∀x y,dI x=some y->bp w a2 B (a9 tm y) (ρ x))
  (h:kJ (a9 tm) z eP=some r):∃v,(Instr.build t (ps.map λp=>(p.1,ρ p.2)).toArray).run P w=.ok v w/\bp w a2 B (.agg r) v:=by
 obtain⟨i,iX,J,tV,b0⟩:=Ea (P:=P) (w:=w) (B:=B) (a2:=a2) aV;obtain⟨pl,F,G⟩:=arU (w:=w) aO;obtain⟨oN,aK,aa⟩:=P7 (place:=vp P dJ) hρ ps eP _ r _ aF b0 h;refine⟨.agg oN,?_,by rw[show oN=oN.toList.toArray from by simp];exact .agg aa.1 aa.2⟩
 ·have sO:∀i,pl.toArray[i]?=vp P dJ i:=λi=>by simpa using G i
  have hm:(dJ.mapM λf=>(do pure (f.offset,<-sizeOf f.type):Sem (Nat×Nat))).run P w=.ok pl.toArray w:=by
   rw[Array.mapM_eq_mapM_toList];rw[map_eq_pure_bind];simp only[Sem.run_bind,F,Result.andThen_ok,Sem.run_pure]
  simp only[Instr.build,Sem.run_bind,Lb J tV,Result.andThen_ok,Sem.run_pure,run_underlying bz,hm,arV sO,aK]
def arX {t e:TypeId}{n sz:Nat}{z r:List O}{ps:List (Nat×Operand)}{eP:List (Nat×Nat×bI)}{ρ:Operand->Value}{tm:Nat->O}{a2:Nat->Prop}(bz:P.underlying t=some (.array n e))(aV:zeroOf P t=some z)
  (X:gn P e=some sz) (aF:partsOf (λi=>some (i*sz,sz)) ps=some eP) (hρ:∀x y,dI x=some y->bp w a2 B (a9 tm y) (ρ x))
  (h:kJ (a9 tm) z eP=some r):∃v,(Instr.build t (ps.map λp=>(p.1,ρ p.2)).toArray).run P w=.ok v w/\bp w a2 B (.agg r) v:=by
 obtain⟨i,iX,J,tV,b0⟩:=Ea (P:=P) (w:=w) (B:=B) (a2:=a2) aV;obtain⟨oN,aK,aa⟩:=P7 (place:=λi=>some (i*sz,sz)) hρ ps eP _ r _ aF b0 h;refine⟨.agg oN,?_,by rw[show oN=oN.toList.toArray from by simp];exact .agg aa.1 aa.2⟩
 simp only[Instr.build,Sem.run_bind,Lb J tV,Result.andThen_ok,Sem.run_pure,run_underlying bz,vr X,aK]
end Go.Mini
namespace Go.Mini
open Go
variable {P:Program} {A:Nat->Prop} {w:World} {B:e7} {mem:Mem}
def arY (n:Next)(v:Value):Prop:=n=.value v\/(n=.skip/\v=undef)
def il (A:Nat->Prop)(w:World)(B:e7)(run:Result Next)(mem':Mem)(r:O):Prop :=
 ∃n v aT br,run=.ok n aT/\arY n v/\eE A w B aT br mem'/\bp aT (b4 A br) br r v
def il.mE {s:Sem Value}{r:O}(bR:fs A w B mem)(h:∃v,s.run P w=.ok v w/\bp w (b4 A B) B r v):il A w B ((do pure (.value (<-s)):Sem Next).run P w) mem r:=by
 obtain⟨v,F,G⟩:=h;exact⟨.value v,v,w,B,by simp[F],.inl rfl,.refl bR,G⟩
def il.of {s:Sem Value}{mem':Mem}{r:O}(h:∃v aT br,s.run P w=.ok v aT/\eE A w B aT br mem'/\bp aT (b4 A br) br r v):il A w B ((do pure (.value (<-s)):Sem Next).run P w) mem' r:=by
 obtain⟨v,aT,br,F,G,af⟩:=h;exact⟨.value v,v,aT,br,by simp[F],.inl rfl,G,af⟩
def adG {x:Option O}{r:O}{j3:Option (Key×Nat×List O)}(h:jn x=some (r,j3)):x=some r/\j3=none:=by
 unfold jn at h
 split at h<;>cases h
 exact⟨rfl,rfl⟩
def qD {x:Option Nat}{f:Nat->Option O}{r:O}(h:h3 x f=some r):∃n,x=some n/\f n=some r:=by
 unfold h3 at h
 split at h
 ·exact⟨_,rfl,h⟩
 ·cases h
def adH {x y:Option Nat}{f:Nat->Nat->Out}{r:O×Option (Key×Nat×List O)}(h:KW x y f=some r):∃n m,x=some n/\y=some m/\f n m=some r:=by
 unfold KW at h
 split at h
 ·exact⟨_,_,rfl,rfl,h⟩
 ·cases h
def Ef {a2:Nat->Prop}{ρ:Operand->Value}{tm:Nat->O}(hρ:∀x y,dI x=some y->bp w a2 B (a9 tm y) (ρ x)){x:Option Operand}{y:Option bI}(h:tS x=some y):rS w a2 B (y.map (a9 tm)) (x.map ρ):=by
 cases x with
 |none=>simp[tS] at h;subst h;simp[rS]
 |some x =>
  simp only[tS,dS] at h;obtain⟨y',al,rfl⟩:=h;simp only[iY,rS];exact hρ _ _ al
def adI {dJ:Array Field}{f o s:Nat}(h:vp P dJ f=some (o,s)):∃fd,dJ[f]?=some fd/\fd.offset=o/\gn P fd.type=some s:=by
 simp only[vp,hi,ho,ek,cl,e2] at h;obtain⟨fd,F,adJ,G,af,aS⟩:=h;exact⟨fd,F,af,aS ▸ G⟩
def yD {a2:Nat->Prop}{ρ:Operand->Value}{tm:Nat->O}(hρ:∀x y,dI x=some y->bp w a2 B (a9 tm y) (ρ x)):∀{l:List Operand} {r:List bI},l.mapM dI=some r->dg w a2 B (r.map (a9 tm)) (l.map ρ)
 | [],r,h=>by simp at h;subst h;exact dg.nil
 |x::l,r,h=>by
  simp only[kr,hi,ho,ek,cl] at h;obtain⟨y,al,Hf,aa,rfl⟩:=h;exact dg.cons (hρ _ _ al) (yD hρ aa)
def B0 {α β:Type}(a:Array α)(f:α->β):a.map f=(a.toList.map f).toArray:=by
 apply Array.ext';simp
def jt {tm:Nat->O}{m:jF}{r:O}{j3:Option (Key×Nat×List O)}{x:Option O}(h:ck mem tm m=some (r,j3))(e:ck mem tm m=jn x):x=some r/\j3=none:=adG (e.symm.trans h)
def arZ {ρ:Operand->Value}{tm:Nat->O}{kb:Nat}{own:List Nat}{dst:Option Tmp}{type:TypeId}{c:Call}{m:jF}{r:O}{j3:Option (Key×Nat×List O)}(bR:fs A w B mem)
  (hρ:∀x y,dI x=some y->bp w (b4 A B) B (a9 tm y) (ρ x)) (a3:yt P kb own dst type c=some m) (h:ck mem tm m=some (r,j3)) :
  il A w B ((do let d <-resolve ρ c type;invoke d.target d.args:Sem Next).run P w) (ij mem j3) r:=by
 obtain⟨callee,args,argTypes⟩:=c;have two:∀{α:Type} (a:Array α) (x y:α),a.toList=[x,y]->a=#[x,y]:=λa x y h=>Array.ext' (by simpa using h);have one:∀{α:Type} (a:Array α) (x:α),a.toList=[x]->a=#[x]:=λa x h=>Array.ext' (by simpa using h);unfold yt at a3
 split at a3
 ·rename_i x t H aO bz;simp only at H aO bz;subst H;obtain rfl:=one _ _ aO;obtain rfl:=one _ _ bz
  split at a3
  ·rename_i e hu;simp only[dS] at a3;obtain⟨y,al,rfl⟩:=a3;obtain⟨aY,rfl⟩:=jt h rfl;obtain⟨n,aH,aY⟩:=qD aY
   cases aY;have:=arj (P:=P) (w:=w) t type e hu (hρ _ _ al) aH;exact⟨.value _,_,w,B,by simp[resolve,invoke,builtin,this],.inl rfl,.refl bR,.M .int⟩
  ·rename_i hu;simp only[dS] at a3;obtain⟨y,al,rfl⟩:=a3;obtain⟨aY,rfl⟩:=jt h rfl;obtain⟨n,aH,aY⟩:=qD aY
   cases aY;have:=ark (P:=P) (w:=w) t type hu (hρ _ _ al) aH;exact⟨.value _,_,w,B,by simp[resolve,invoke,builtin,this],.inl rfl,.refl bR,.M .int⟩
  ·cases a3
 ·rename_i s x t u H aO bz;simp only at H aO bz;subst H;obtain rfl:=two _ _ _ aO;obtain rfl:=two _ _ _ bz
  split at a3
  ·rename_i e aD hu adK;simp only[hi,ho,ek] at a3;obtain⟨z,aV,b,ad,n,aH,d,Y,adJ,jI,ju,vB,aX⟩:=a3
   split at aX
   ·rename_i hE;obtain⟨rfl,au,rfl⟩:=hE
    cases aX;simp only[ck] at h
    cases fo:qv mem (D z) (a9 tm ju) with
    |none =>
     rw[fo] at h
     revert h
     cases a9 tm adJ<;>simp[rM]
    |some p =>
     obtain⟨k,new⟩:=p;rw[fo] at h;obtain⟨v,aT,br,F,G,af⟩:=arL (ty:=type) _ bR hu aV aH ad au (hρ _ _ jI) (hρ _ _ vB) fo h;exact⟨.value v,v,aT,br,by simp[resolve,invoke,builtin,F],.inl rfl,G,af⟩
   ·cases aX
  ·cases a3
 ·rename_i aKj x t u H aO bz;simp only at H aO bz;subst H;obtain rfl:=two _ _ _ aO;obtain rfl:=two _ _ _ bz
  split at a3
  ·rename_i e aD hu adK;simp only[hi,ho,ek] at a3;obtain⟨n,aH,aX⟩:=a3
   split at aX
   ·rename_i au;simp only[ek,cl] at aX;obtain⟨xb,nB,ju,vB,rfl⟩:=aX;simp only[ck] at h
    cases fo:qv mem n (a9 tm ju) with
    |none =>
     rw[fo] at h
     revert h
     cases a9 tm xb<;>simp[w2]
    |some p =>
     obtain⟨k,new⟩:=p;rw[fo] at h;obtain⟨v,aT,F,G,af⟩:=arO (u:=u) (ty:=type) bR hu aH (hρ _ _ nB) (hρ _ _ vB) fo h;exact⟨.value v,v,aT,B,by simp[resolve,invoke,builtin,F],.inl rfl,G,af⟩
   ·cases aX
  ·cases a3
 ·rename_i x t H aO bz;simp only at H aO bz;subst H;obtain rfl:=one _ _ aO;obtain rfl:=one _ _ bz
  split at a3
  ·rename_i e hu;simp only[hi,ho,ek] at a3;obtain⟨z,aV,n,aH,aX⟩:=a3
   split at aX
   ·rename_i au;simp only[ek,cl] at aX;obtain⟨ju,vB,rfl⟩:=aX;simp only[ck] at h;obtain⟨v,aT,F,G,af⟩:=arR (ty:=type) bR hu aV (by omega) (hρ _ _ vB) h;exact⟨.value v,v,aT,B,by simp[resolve,invoke,builtin,F],.inl rfl,G,af⟩
   ·cases aX
  ·cases a3
 ·rename_i x y H aO;simp only at H aO;subst H;obtain rfl:=two _ _ _ aO;simp only[hi,ho,ek,cl] at a3;obtain⟨ju,Q,y',al,rfl⟩:=a3;obtain⟨aY,rfl⟩:=jt h rfl;obtain⟨z,F,G⟩:=adk (P:=P) argTypes type (hρ _ _ Q) (hρ _ _ al) aY;simp only[if_true] at F;exact⟨.value z,z,w,B,by simp[resolve,invoke,builtin,F],.inl rfl,.refl bR,G⟩
 ·rename_i x y H aO;simp only at H aO;subst H;obtain rfl:=two _ _ _ aO;simp only[hi,ho,ek,cl] at a3;obtain⟨ju,Q,y',al,rfl⟩:=a3;obtain⟨aY,rfl⟩:=jt h rfl;obtain⟨z,F,G⟩:=adk (P:=P) argTypes type (hρ _ _ Q) (hρ _ _ al) aY;simp only[lD,if_false] at F;exact⟨.value z,z,w,B,by simp[resolve,invoke,builtin,F],.inl rfl,.refl bR,G⟩
 ·split at a3
  ·split at a3
   ·simp only[hi,ho,ek,cl] at a3;obtain⟨_,_,_,_,_,_,rfl⟩:=a3
    cases h
   ·cases a3
  ·split at a3
   ·(repeat' split at a3)<;>simp only[hi,ho,ek,cl] at a3
    all_goals
     obtain⟨_,_,rfl⟩:=a3
     cases h
   ·simp only[hi,ho,ek,cl] at a3;obtain⟨_,_,rfl⟩:=a3
    cases h
 ·simp only[hi,ho,ek,cl] at a3;obtain⟨_,_,_,_,rfl⟩:=a3
  cases h
 ·cases a3
def adL {ρ:Operand->Value}{tm:Nat->O}{kb:Nat}{own:List Nat}{o:Oper}{m:jF}{r:O}{j3:Option (Key×Nat×List O)}(bR:fs A w B mem)
  (hρ:∀x y,dI x=some y->bp w (b4 A B) B (a9 tm y) (ρ x)) (a3:jY P kb own o.dst o.type o.op=some m) (h:ck mem tm m=some (r,j3)) :
  il A w B ((execOp ρ o).run P w) (ij mem j3) r:=by
 obtain⟨dst,op,type,pos,after,guard⟩:=o;simp only at a3
 cases op<;>simp only[jY] at a3<;>simp only[execOp]
 case move x =>
  simp only[dS] at a3;obtain⟨y,al,rfl⟩:=a3;obtain⟨aY,rfl⟩:=jt (x:=some (a9 tm y)) h rfl
  cases aY;exact⟨_,_,w,B,rfl,.inl rfl,.refl bR,hρ _ _ al⟩
 case assign x =>
  simp only[dS] at a3;obtain⟨y,al,rfl⟩:=a3;obtain⟨aY,rfl⟩:=jt (x:=some (a9 tm y)) h rfl
  cases aY;exact⟨_,_,w,B,rfl,.inl rfl,.refl bR,hρ _ _ al⟩
 case pick c a b =>
  simp only[hi,ho,ek,cl] at a3;obtain⟨c',H,j2,aO,fk,ad,rfl⟩:=a3;obtain⟨aY,rfl⟩:=jt h rfl;have:=il.mE bR (aq5 (P:=P) (hρ _ _ H) (hρ _ _ aO) (hρ _ _ ad) aY)
  simpa [ij] using this
 case alloc e =>
  simp only[hi,ho,ek,cl] at a3;obtain⟨d,Y,z,aV,rfl⟩:=a3;simp only[ck,cl,e2] at h;obtain⟨rfl,rfl⟩:=h;exact il.of (ary _ bR aV)
 case box e x =>
  simp only[hi,ho,ek,cl] at a3;obtain⟨d,Y,y,al,rfl⟩:=a3;simp only[ck] at h
  split at h
  ·rename_i I;simp only[cl,e2] at h;obtain⟨rfl,rfl⟩:=h;exact il.of (arz _ bR (hρ _ _ al) I)
  ·cases h
 case build t ps =>
  split at a3
  ·rename_i dJ hu
   split at a3
   ·rename_i aO;simp only[hi,ho,ek,cl] at a3;obtain⟨z,aV,eP,BU,rfl⟩:=a3;obtain⟨aY,rfl⟩:=jt h rfl;simp only[k7,dS] at aY;obtain⟨cs,kt,rfl⟩:=aY;rw[B0];exact il.mE bR (arW hu aV aO BU hρ kt)
   ·cases a3
  ·rename_i n e hu;simp only[hi,ho,ek,cl] at a3;obtain⟨s,X,z,aV,eP,BU,rfl⟩:=a3;obtain⟨aY,rfl⟩:=jt h rfl;simp only[k7,dS] at aY;obtain⟨cs,kt,rfl⟩:=aY;rw[B0];exact il.mE bR (arX hu aV X BU hρ kt)
  ·cases a3
 case buildSlice t len ps =>
  split at a3
  ·rename_i e hu;simp only[hi,ho,ek] at a3;obtain⟨z,aV,s,X,eP,BU,d,Y,aX⟩:=a3
   split at aX
   ·rename_i H;obtain⟨w9,au,ak⟩:=H;simp only[cl] at aX;subst aX;rw[B0]
    cases p1:own.contains d with
    |true =>
     rw[p1] at h;exact il.of (arG _ bR hu aV X w9 au ak BU hρ h)
    |false =>
     rw[p1] at h;obtain⟨aY,rfl⟩:=jt h rfl;obtain⟨v,aT,F,G,af⟩:=arF bR hu aV X w9 au ak BU hρ aY;exact il.of ⟨v,aT,B,F,G,af⟩
   ·cases aX
  ·cases a3
 case load t x =>
  simp only[hi,ho,ek,cl] at a3;obtain⟨n,aH,g,a8,y,al,rfl⟩:=a3;obtain⟨aY,rfl⟩:=jt h rfl;exact il.mE bR (aq4 aH a8 bR (hρ _ _ al) aY)
 case store t x v =>
  simp only[hi,ho,ek,cl] at a3;obtain⟨n,aH,ju,Q,D5,aA,rfl⟩:=a3;obtain⟨aT,F,G,rfl⟩:=arB bR aH (hρ _ _ Q) (hρ _ _ aA) h;exact⟨.skip,undef,aT,B,by simp[F],.inr ⟨rfl,rfl⟩,G,.no⟩
 case nilCheck x =>
  simp only[dS] at a3;obtain⟨y,al,rfl⟩:=a3;obtain⟨aY,rfl⟩:=jt h rfl;obtain⟨⟨b,off,Q⟩,aa⟩:=arl (hρ _ _ al) aY;rw[Q] at aa ⊢;exact⟨_,_,w,B,rfl,.inl rfl,.refl bR,aa⟩
 case binOp bop t x y pos2 =>
  unfold zS at a3
  split at a3
  ·split at a3
   ·rename_i ju y' Q al
    cases a3;obtain⟨aY,rfl⟩:=jt h rfl;exact il.mE bR (ac8 t x y (hρ _ _ Q) (hρ _ _ al) aY)
   ·cases a3
  ·split at a3
   ·rename_i ju y' Q al
    cases a3;obtain⟨aY,rfl⟩:=jt h rfl;exact il.mE bR (ac8 t x y (hρ _ _ Q) (hρ _ _ al) aY)
   ·cases a3
  ·rename_i hu
   split at a3
   ·rename_i ju y' Q al
    cases a3;obtain⟨aY,rfl⟩:=jt h rfl;exact il.mE bR (ac9 (neg:=false) t x y hu (hρ _ _ Q) (hρ _ _ al) aY)
   ·rename_i ju y' Q al
    cases a3;obtain⟨aY,rfl⟩:=jt h rfl;exact il.mE bR (ac9 (neg:=true) t x y hu (hρ _ _ Q) (hρ _ _ al) aY)
   ·cases a3
  ·rename_i dJ hu
   split at a3
   ·unfold w5 at a3
    split at a3
    ·rename_i H
     split at a3
     ·rename_i g1 ju y' I Q al
      cases a3;obtain⟨aY,rfl⟩:=jt h rfl;exact il.mE bR (adh (neg:=false) t x y dJ hu H.1 H.2 I (hρ _ _ Q) (hρ _ _ al) aY)
     ·cases a3
    ·cases a3
   ·unfold w5 at a3
    split at a3
    ·rename_i H
     split at a3
     ·rename_i g1 ju y' I Q al
      cases a3;obtain⟨aY,rfl⟩:=jt h rfl;exact il.mE bR (adh (neg:=true) t x y dJ hu H.1 H.2 I (hρ _ _ Q) (hρ _ _ al) aY)
     ·cases a3
    ·cases a3
   ·cases a3
  ·split at a3
   ·split at a3
    ·simp only[dS] at a3;obtain⟨_,_,rfl⟩:=a3
     cases h
    ·simp only[dS] at a3;obtain⟨_,_,rfl⟩:=a3
     cases h
    ·cases a3
   ·cases a3
  ·cases a3
 case unOp uop t x =>
  simp only[dS] at a3;obtain⟨y,al,rfl⟩:=a3;obtain⟨aY,rfl⟩:=jt h rfl;exact il.mE bR (aq6 (hρ _ _ al) aY)
 case convert s t x =>
  split at a3
  ·rename_i g1 k X bz;simp only[dS] at a3;obtain⟨y,al,rfl⟩:=a3;obtain⟨aY,rfl⟩:=jt h rfl;exact il.mE bR (aq7 s t g1 X bz (hρ _ _ al) aY)
  ·cases a3
 case makeFunc fn first eM =>
  cases fn<;>simp only[reduceCtorEq] at a3
  split at a3
  ·rename_i e6;simp only[hi,ho,ek,cl] at a3;obtain⟨cs,kt,rfl⟩:=a3;obtain⟨aY,rfl⟩:=jt (x:=some (.fx _ (cs.map (a9 tm)))) h rfl
   cases aY;have ar0:first=#[]:=Array.eq_empty_of_size_eq_zero e6
   subst ar0;have ak:=yD hρ kt;exact il.mE bR ⟨_,by rw[B0 eM,Array.map_empty];rfl,.fx ak.1 ak.2⟩
  ·cases a3
 case makeSlice t l c =>
  split at a3
  ·rename_i e he;simp only[hi,ho,ek] at a3;obtain⟨z,aV,s,X,b,ad,d,Y,aX⟩:=a3
   split at aX
   ·rename_i H;simp only[ek,cl] at aX;obtain⟨fR,ak,c',l4,rfl⟩:=aX;simp only[ck] at h;obtain⟨h7,iZ,F,G,af⟩:=adH h;obtain⟨rfl,au⟩:=H;exact il.of (arA _ bR he aV X ad F G (hρ _ _ ak) (hρ _ _ l4) au af)
   ·cases aX
  ·cases a3
 case slice t x bN J kq =>
  split at a3
  ·rename_i e hu;simp only[hi,ho,ek] at a3;obtain⟨s,X,aX⟩:=a3
   split at aX
   ·simp only[ek,cl] at aX;obtain⟨y,al,adM,fB,ku,jq,Li,h4,rfl⟩:=aX;have nd:=Ef hρ fB;have l2:=Ef hρ jq;have Hk:=Ef hρ h4
    cases Li with
    |none =>
     cases kq with
     |some v=>simp[tS,dS] at h4
     |none =>
      obtain⟨aY,rfl⟩:=jt h rfl;obtain⟨l,ak,aY⟩:=qD aY;obtain⟨len,hlen,aY⟩:=qD aY;obtain⟨aX,Eg,aY⟩:=qD aY;exact il.mE bR (arq hu X ak hlen Eg nd l2 (hρ _ _ al) aY)
    |some Li =>
     cases ku with
     |none=>cases h
     |some ku =>
      cases J with
      |none=>simp[rS] at l2
      |some J =>
       cases kq with
       |none=>simp[rS] at Hk
       |some kq =>
        obtain⟨aY,rfl⟩:=jt h rfl;obtain⟨l,ak,aY⟩:=qD aY;obtain⟨aX,Eg,aY⟩:=qD aY;obtain⟨m,hm,aY⟩:=qD aY;exact il.mE bR (art hu X ak Eg hm nd l2 Hk (hρ _ _ al) aY)
   ·cases aX
  ·rename_i n e hu;simp only[hi,ho,ek] at a3;obtain⟨s,X,aX⟩:=a3
   split at aX
   ·rename_i H;simp only[ek,cl] at aX;obtain⟨y,al,adM,fB,ku,jq,Li,h4,rfl⟩:=aX;have nd:=Ef hρ fB;have l2:=Ef hρ jq
    cases Li with
    |none =>
     cases kq with
     |some v=>simp[tS,dS] at h4
     |none =>
      obtain⟨aY,rfl⟩:=jt h rfl;obtain⟨l,ak,aY⟩:=qD aY;obtain⟨aX,Eg,aY⟩:=qD aY;exact il.mE bR (arT bR hu X H.2 ak Eg nd l2 (hρ _ _ al) aY)
    |some Li=>cases h
   ·cases aX
  ·rename_i hu
   split at a3
   ·rename_i h4;simp only[hi,ho,ek,cl] at a3;obtain⟨y,al,adM,fB,ku,jq,rfl⟩:=a3;have nd:=Ef hρ fB;have l2:=Ef hρ jq
    cases kq with
    |some v=>cases h4
    |none =>
     obtain⟨aY,rfl⟩:=jt h rfl;obtain⟨l,ak,aY⟩:=qD aY;obtain⟨len,hlen,aY⟩:=qD aY;obtain⟨aX,Eg,aY⟩:=qD aY;exact il.mE bR (aru hu ak hlen Eg nd l2 (hρ _ _ al) aY)
   ·cases a3
  ·cases a3
 case fieldAddr t x f =>
  split at a3
  ·rename_i dJ hu;simp only[hi,ho,ek] at a3;obtain⟨⟨o,s⟩,aF,aX⟩:=a3
   split at aX
   ·rename_i au;simp only[ek,cl] at aX;obtain⟨y,al,rfl⟩:=aX;obtain⟨fd,F,G,af⟩:=adI aF;obtain⟨aY,rfl⟩:=jt h rfl;exact il.mE bR (aq8 t f dJ fd s hu F af au G (hρ _ _ al) aY)
   ·cases aX
  ·cases a3
 case field t x f =>
  split at a3
  ·rename_i dJ hu;simp only[hi,ho,ek,cl] at a3;obtain⟨fd,Ww,⟨o,s⟩,aF,g,a8,y,al,rfl⟩:=a3;obtain⟨aKk,F,G,af⟩:=adI aF;rw[Ww] at F
   cases F;obtain⟨aY,rfl⟩:=jt h rfl;exact il.mE bR (arb t f dJ fd hu Ww af a8 G (hρ _ _ al) aY)
  ·cases a3
 case indexAddr t x i =>
  split at a3
  ·rename_i e hu;simp only[hi,ho,ek] at a3;obtain⟨s,X,aX⟩:=a3
   split at aX
   ·simp only[ek,cl] at aX;obtain⟨y,al,j,ag,rfl⟩:=aX;obtain⟨aY,rfl⟩:=jt h rfl;obtain⟨n,aH,aY⟩:=qD aY;obtain⟨k,I⟩:=Hi aH (hρ _ _ ag);rw[I];exact il.mE bR (ard t e hu X (hρ _ _ al) aY)
   ·cases aX
  ·rename_i len e hu;simp only[hi,ho,ek] at a3;obtain⟨s,X,aX⟩:=a3
   split at aX
   ·simp only[ek,cl] at aX;obtain⟨y,al,j,ag,rfl⟩:=aX;obtain⟨aY,rfl⟩:=jt h rfl;obtain⟨n,aH,aY⟩:=qD aY;obtain⟨k,I⟩:=Hi aH (hρ _ _ ag);rw[I];exact il.mE bR (arf t e hu X (hρ _ _ al) aY)
   ·cases aX
  ·cases a3
 case index t x i =>
  split at a3
  ·rename_i hu;simp only[hi,ho,ek,cl] at a3;obtain⟨y,al,j,ag,rfl⟩:=a3;obtain⟨aY,rfl⟩:=jt h rfl;obtain⟨n,aH,aY⟩:=qD aY;obtain⟨k,I⟩:=Hi aH (hρ _ _ ag);rw[I];exact il.mE bR (arh t hu (hρ _ _ al) aY)
  ·cases a3
 case extract x i =>
  simp only[dS] at a3;obtain⟨y,al,rfl⟩:=a3;obtain⟨aY,rfl⟩:=jt h rfl;exact il.mE bR (ari (hρ _ _ al) aY)
 case call c =>
  exact arZ bR hρ a3 h
 all_goals cases a3
end Go.Mini
namespace Go.Mini
open Go
inductive gG where
 |code (c:eh)
 |inBlock (id:Nat)
def cw (T:ba)(K:eT->bc->Prop):List gG->eT->bc->Prop
 | [],e,st=>K e st
 |.code c::k,.normal,st=>wp T c (cw T K k) st
 |.code _::k,.exit id,st=>cw T K k (.exit id) st
 |.code _::k,.ret,st=>cw T K k .ret st
 |.inBlock _::k,.normal,st=>cw T K k .normal st
 |.inBlock j::k,.exit id,st=>if id=j then cw T K k .normal st else cw T K k (.exit id) st
 |.inBlock _::k,.ret,st=>cw T K k .ret st
section
variable {T:ba} {K:eT->bc->Prop} {k:List gG} {st:bc}
def ar1 (c:eh):(λe dQ=>match e with
  |.normal=>wp T c (cw T K k) dQ
  |e=>cw T K k e dQ)=cw T K (.code c::k):=by
 funext e dQ
 cases e<;>rfl
def ar2 (id:Nat):(λe dQ=>match e with
  |.exit j=>if j=id then cw T K k .normal dQ else cw T K k (.exit j) dQ
  |e=>cw T K k e dQ)=cw T K (.inBlock id::k):=by
 funext e dQ
 cases e<;>rfl
@[go_sem] def ar3 (e:eT):cw T K [] e st=K e st:=by cases e<;>rfl
@[go_sem] def aKl (c:eh):cw T K (.code c::k) .normal st=wp T c (cw T K k) st:=bq
@[go_sem] def aKm (c:eh)(id:Nat):cw T K (.code c::k) (.exit id) st=cw T K k (.exit id) st:=bq
@[go_sem] def aKn (c:eh):cw T K (.code c::k) .ret st=cw T K k .ret st:=bq
@[go_sem] def aKo (id:Nat):cw T K (.inBlock id::k) .normal st=cw T K k .normal st:=bq
@[go_sem] def aKp (id j:Nat):cw T K (.inBlock j::k) (.exit id) st=if id=j then cw T K k .normal st else cw T K k (.exit id) st:=bq
@[go_sem] def aKq (id:Nat):cw T K (.inBlock id::k) .ret st=cw T K k .ret st:=bq
def pf {c:eh}(h:wp T c (cw T K []) st):wp T c K st:=by
 have:cw T K []=K:=by funext e st;cases e<;>rfl
 rwa [this] at h
@[go_sem] def wp_seq (a b:eh):wp T (.seq a b) (cw T K k) st=wp T a (cw T K (.code b::k)) st:=by
 rw[<-ar1];rfl
@[go_sem] def wp_skip:wp T .skip (cw T K k) st=cw T K k .normal st:=bq
@[go_sem] def wp_ret:wp T .ret (cw T K k) st=cw T K k .ret st:=bq
@[go_sem] def wp_exit (id:Nat):wp T (.exit id) (cw T K k) st=cw T K k (.exit id) st:=bq
@[go_sem] def wp_block (id:Nat)(c:eh):wp T (.block id c) (cw T K k) st=wp T c (cw T K (.inBlock id::k)) st:=by
 rw[<-ar2];rfl
def qE (T:ba)(K:eT->bc->Prop)(k:List gG)(m:O)(a b:eh)(st:bc):Prop :=
 match m with
 |.M (.bool t)=>if t=true then wp T a (cw T K k) st else wp T b (cw T K k) st
 |_=>False
@[go_sem] def wp_cond (c:bI)(a b:eh):wp T (.cond c a b) (cw T K k) st=qE T K k (a9 st.tm c) a b st:=bq
@[go_sem] def ar4 (a b:eh):qE T K k (.M (.bool true)) a b st=wp T a (cw T K k) st:=bq
@[go_sem] def ar5 (a b:eh):qE T K k (.M (.bool false)) a b st=wp T b (cw T K k) st:=bq
def Hr (T:ba)(K:eT->bc->Prop)(k:List gG)(l:List cq)(st:bc):Prop:=yr T (cw T K k .normal) l st
@[go_sem] def wp_ops (l:List cq):wp T (.ops l) (cw T K k) st=Hr T K k l st:=bq
@[go_sem] def aKr:Hr T K k [] st=cw T K k .normal st:=bq
def rU (T:ba)(K:eT->bc->Prop)(k:List gG)(g:Option Bool)(i:cq)(r:List cq)(st:bc):Prop :=
 match g with
 |none=>False
 |some g=>if g=true then gC T (yr T (cw T K k .normal) r) i st else Hr T K k r ⟨put st.tm i.dst .no,st.mem⟩
@[go_sem] def aKs (i:cq)(r:List cq):Hr T K k (i::r) st=rU T K k (pd st.tm i.g) i r st:=bq
@[go_sem] def aKt (i:cq)(r:List cq):rU T K k (some true) i r st=gC T (Hr T K k r) i st:=bq
@[go_sem] def aKu (i:cq)(r:List cq):rU T K k (some false) i r st=Hr T K k r ⟨put st.tm i.dst .no,st.mem⟩:=bq
def B1 (T:ba)(K:eT->bc->Prop)(k:List gG)(n:Nat)(l:List cq)(c:List (List Nat))(rec:Rec)(st:bc):Prop:=w4 T (cw T K k .normal) n l c rec st
@[go_sem] def aKv (l:List cq)(c:List (List Nat)):wp T (.mz l c) (cw T K k) st=B1 T K k 0 l c (λ_=>none) st:=bq
@[go_sem] def aKw (n:Nat)(c:List (List Nat))(rec:Rec):B1 T K k n [] c rec st=cw T K k .normal st:=bq
def rV (T:ba)(K:eT->bc->Prop)(k:List gG)(n:Nat)(g:Option Bool)(i:cq)(r:List cq)(c:List (List Nat))(rec:Rec)(st:bc):Prop :=
 match g with
 |none=>False
 |some g=>if g=true then (match hB T st.mem st.tm i.op with
    |some (m,e)=>G7 rec (jX i.op,dC st.tm i.op) (c.headD [])=true/\B1 T K k (n+1) r c.tail (vo rec n (jX i.op,dC st.tm i.op)) ⟨put st.tm i.dst m,ij st.mem e⟩
    |none=>False) else B1 T K k (n+1) r c.tail rec ⟨put st.tm i.dst .no,st.mem⟩
@[go_sem] def aKx (n:Nat)(i:cq)(r:List cq)(c:List (List Nat))(rec:Rec):B1 T K k n (i::r) c rec st=rV T K k n (pd st.tm i.g) i r c rec st:=bq
def adN (T:ba)(K:eT->bc->Prop)(k:List gG)(n:Nat)(x:Option (O×Option (Key×Nat×List O)))(i:cq)(r:List cq)(c:List (List Nat))(rec:Rec)(st:bc):Prop :=
 match x with
 |some (m,e)=>G7 rec (jX i.op,dC st.tm i.op) (c.headD [])=true/\B1 T K k (n+1) r c.tail (vo rec n (jX i.op,dC st.tm i.op)) ⟨put st.tm i.dst m,ij st.mem e⟩
 |none=>False
@[go_sem] def aKy (n:Nat)(i:cq)(r:List cq)(c:List (List Nat))(rec:Rec):rV T K k n (some true) i r c rec st=adN T K k n (hB T st.mem st.tm i.op) i r c rec st:=bq
@[go_sem] def aKz (n:Nat)(i:cq)(r:List cq)(c:List (List Nat))(rec:Rec):rV T K k n (some false) i r c rec st=B1 T K k (n+1) r c.tail rec ⟨put st.tm i.dst .no,st.mem⟩:=bq
@[go_sem] def aKA (n:Nat)(m:O)(e:Option (Key×Nat×List O))(i:cq)(r:List cq)(c:List (List Nat))(rec:Rec):adN T K k n (some (m,e)) i r c rec st =
 (G7 rec (jX i.op,dC st.tm i.op) (c.headD [])=true/\B1 T K k (n+1) r c.tail (vo rec n (jX i.op,dC st.tm i.op)) ⟨put st.tm i.dst m,ij st.mem e⟩):=bq
end
section
variable {T:ba} {K:bc->Prop} {st:bc} {tm:Nat->O} {mem:Mem}
def jJ (K:bc->Prop)(x:Option (O×Option (Key×Nat×List O)))(d:Option Nat)(st:bc):Prop :=
 match x with
 |some (m,e)=>K ⟨put st.tm d m,ij st.mem e⟩
 |none=>False
@[go_sem] def aKB (m:O)(e:Option (Key×Nat×List O))(d:Option Nat):jJ K (some (m,e)) d st=K ⟨put st.tm d m,ij st.mem e⟩:=bq
variable (d:Option Nat) (g:Option (Nat×Bool))
@[go_sem] def aKC (x:bI):gC T K ⟨d,g,.jm x⟩ st=K ⟨put st.tm d (a9 st.tm x),st.mem⟩:=bq
@[go_sem] def aKD (c a b:bI):gC T K ⟨d,g,.pick c a b⟩ st=jJ K (ck st.mem st.tm (.pick c a b)) d st:=bq
@[go_sem] def aKE (k:Key)(z:List O):gC T K ⟨d,g,.alloc k z⟩ st=K ⟨put st.tm d (.ptr k (bQ st.mem k) 0),a4 st.mem k (bQ st.mem k) z⟩:=bq
@[go_sem] def aKF (k:Key)(x:bI):gC T K ⟨d,g,.box k x⟩ st=jJ K (ck st.mem st.tm (.box k x)) d st:=bq
@[go_sem] def aKG (z:List O)(ps:List (Nat×Nat×bI)):gC T K ⟨d,g,.build z ps⟩ st=jJ K (ck st.mem st.tm (.build z ps)) d st:=bq
@[go_sem] def aKH (k:Key)(o:Bool)(z:List O)(sz len:Nat)(ps:List (Nat×Nat×bI)):gC T K ⟨d,g,.ff k o z sz len ps⟩ st=jJ K (ck st.mem st.tm (.ff k o z sz len ps)) d st:=bq
@[go_sem] def aKI (n:Nat)(dW:Bool)(x:bI):gC T K ⟨d,g,.load n dW x⟩ st=jJ K (ck st.mem st.tm (.load n dW x)) d st:=bq
@[go_sem] def aKJ (n:Nat)(x v:bI):gC T K ⟨d,g,.store n x v⟩ st=jJ K (ck st.mem st.tm (.store n x v)) d st:=bq
@[go_sem] def aKK (op:BinOp)(x y:bI):gC T K ⟨d,g,.bin op x y⟩ st=jJ K (ck st.mem st.tm (.bin op x y)) d st:=bq
@[go_sem] def aKL (b:Bool)(n:List Nat)(x y:bI):gC T K ⟨d,g,.eqs b n x y⟩ st=jJ K (ck st.mem st.tm (.eqs b n x y)) d st:=bq
@[go_sem] def aKM (b:Bool)(x y:bI):gC T K ⟨d,g,.beq b x y⟩ st=jJ K (ck st.mem st.tm (.beq b x y)) d st:=bq
@[go_sem] def aKN (op:UnOp)(x:bI):gC T K ⟨d,g,.un op x⟩ st=jJ K (ck st.mem st.tm (.un op x)) d st:=bq
@[go_sem] def aKO (k:IntKind)(x:bI):gC T K ⟨d,g,.conv k x⟩ st=jJ K (ck st.mem st.tm (.conv k x)) d st:=bq
@[go_sem] def aKP (x:bI):gC T K ⟨d,g,.sE x⟩ st=jJ K (ck st.mem st.tm (.sE x)) d st:=bq
@[go_sem] def aKQ (k:Key)(z:List O)(b:Nat)(x y:bI):gC T K ⟨d,g,.mx k z b x y⟩ st=jJ K (ck st.mem st.tm (.mx k z b x y)) d st:=bq
@[go_sem] def aKR (o:Nat)(x:bI):gC T K ⟨d,g,.yo o x⟩ st=jJ K (ck st.mem st.tm (.yo o x)) d st:=bq
@[go_sem] def aKS (o n:Nat)(dW:Bool)(x:bI):gC T K ⟨d,g,.BM o n dW x⟩ st=jJ K (ck st.mem st.tm (.BM o n dW x)) d st:=bq
@[go_sem] def aKT (s:Nat)(x i:bI):gC T K ⟨d,g,.qu s x i⟩ st=jJ K (ck st.mem st.tm (.qu s x i)) d st:=bq
@[go_sem] def aKU (n s:Nat)(x i:bI):gC T K ⟨d,g,.o9 n s x i⟩ st=jJ K (ck st.mem st.tm (.o9 n s x i)) d st:=bq
@[go_sem] def aKV (x i:bI):gC T K ⟨d,g,.idxs x i⟩ st=jJ K (ck st.mem st.tm (.idxs x i)) d st:=bq
@[go_sem] def aKW (s:Nat)(x:bI)(a b c:Option bI):gC T K ⟨d,g,.oI s x a b c⟩ st=jJ K (ck st.mem st.tm (.oI s x a b c)) d st:=bq
@[go_sem] def aKX (n s:Nat)(x:bI)(a b c:Option bI):gC T K ⟨d,g,.tO n s x a b c⟩ st=jJ K (ck st.mem st.tm (.tO n s x a b c)) d st:=bq
@[go_sem] def aKY (x:bI)(a b:Option bI):gC T K ⟨d,g,.DW x a b⟩ st=jJ K (ck st.mem st.tm (.DW x a b)) d st:=bq
@[go_sem] def aKZ (i:Nat)(x:bI):gC T K ⟨d,g,.ext i x⟩ st=jJ K (ck st.mem st.tm (.ext i x)) d st:=bq
@[go_sem] def aK0 (x:bI):gC T K ⟨d,g,.len x⟩ st=jJ K (ck st.mem st.tm (.len x)) d st:=bq
@[go_sem] def aK1 (x:bI):gC T K ⟨d,g,.lens x⟩ st=jJ K (ck st.mem st.tm (.lens x)) d st:=bq
@[go_sem] def aK2 (k:Key)(z:List O)(b:Nat)(s x:bI):gC T K ⟨d,g,.app k z b s x⟩ st=jJ K (ck st.mem st.tm (.app k z b s x)) d st:=bq
@[go_sem] def aK3 (z:List O)(x:bI):gC T K ⟨d,g,.sH z x⟩ st=jJ K (ck st.mem st.tm (.sH z x)) d st:=bq
@[go_sem] def aK4 (s:Nat)(x y:bI):gC T K ⟨d,g,.sF s x y⟩ st=jJ K (ck st.mem st.tm (.sF s x y)) d st:=bq
@[go_sem] def aK5 (b:Bool)(x y:bI):gC T K ⟨d,g,.iB b x y⟩ st=jJ K (ck st.mem st.tm (.iB b x y)) d st:=bq
@[go_sem] def aK6 (f:FuncId)(l:List bI):gC T K ⟨d,g,.pa f l⟩ st=jJ K (ck st.mem st.tm (.pa f l)) d st:=bq
def xc (K:bc->Prop)(x:Option gB)(d:Option Nat)(st:bc):Prop :=
 match x with
 |some (.same r)=>K ⟨put st.tm d (.M r),st.mem⟩
 |some (.own _ es)=>K ⟨put st.tm d (.M (.ay es)),st.mem⟩
 |some (.rel bK)=>∀r mem',bK r mem'->K ⟨put st.tm d r,mem'⟩
 |some (.eN r k g i c)=>K ⟨put st.tm d (.M r),a4 st.mem k g ((rN st.mem k).set i c)⟩
 |some (.zQ r k)=>K ⟨put st.tm d (.M r),a4 st.mem k (bQ st.mem k) []⟩
 |none=>False
@[go_sem] def aK7 (f:FuncId)(l:List bI):gC T K ⟨d,g,.call f l⟩ st=xc K (T f (l.map (a9 st.tm)) st.mem) d st:=bq
@[go_sem] def aK8 (r:Data)(k:Key)(g i:Nat)(c:O):xc K (some (.eN r k g i c)) d st=K ⟨put st.tm d (.M r),a4 st.mem k g ((rN st.mem k).set i c)⟩:=bq
@[go_sem] def aK9 (r:Data)(k:Key):xc K (some (.zQ r k)) d st=K ⟨put st.tm d (.M r),a4 st.mem k (bQ st.mem k) []⟩:=bq
@[go_sem] def aLa (r:Data):xc K (some (.same r)) d st=K ⟨put st.tm d (.M r),st.mem⟩:=bq
@[go_sem] def aLb (s:Nat)(es:List (List Data)):xc K (some (.own s es)) d st=K ⟨put st.tm d (.M (.ay es)),st.mem⟩:=bq
@[go_sem] def ar6 (bK:O->Mem->Prop):xc K (some (.rel bK)) d st=∀r mem',bK r mem'->K ⟨put st.tm d r,mem'⟩:=bq
def Wx (T:ba)(K:bc->Prop)(m:O)(args:List O)(d:Option Nat)(st:bc):Prop :=
 match m with
 |.fx g eM=>xc K (T g (args++eM) st.mem) d st
 |.M (.fn g ds)=>xc K (T g (args++ds.map .M) st.mem) d st
 |_=>False
@[go_sem] def aLc (f:bI)(l:List bI):gC T K ⟨d,g,.jV f l⟩ st=Wx T K (a9 st.tm f) (l.map (a9 st.tm)) d st:=bq
@[go_sem] def aLd (f:FuncId)(eM args:List O):Wx T K (.fx f eM) args d st=xc K (T f (args++eM) st.mem) d st:=bq
@[go_sem] def aLe (f:FuncId)(ds:List Data)(args:List O):Wx T K (.M (.fn f ds)) args d st=xc K (T f (args++ds.map .M) st.mem) d st:=bq
def Wy (K:bc->Prop)(x:Option gB)(k:Key)(sz:Nat)(d:Option Nat)(st:bc):Prop :=
 match x with
 |some (.own et es)=>if et=sz then K ⟨put st.tm d (.ref k (bQ st.mem k) sz 0 (D es)),a4 st.mem k (bQ st.mem k) (es.flatten.map .M)⟩ else False
 |_=>False
@[go_sem] def aLf (k:Key)(sz:Nat)(f:FuncId)(l:List bI):gC T K ⟨d,g,.m8 k sz f l⟩ st=Wy K (T f (l.map (a9 st.tm)) st.mem) k sz d st:=bq
@[go_sem] def aLg (k:Key)(sz:Nat)(es:List (List Data)):Wy K (some (.own sz es)) k sz d st=K ⟨put st.tm d (.ref k (bQ st.mem k) sz 0 (D es)),a4 st.mem k (bQ st.mem k) (es.flatten.map .M)⟩:=by simp[Wy]
def adO (K:bc->Prop)(neg:Bool)(x:Option Bool)(d:Option Nat)(st:bc):Prop :=
 match x with
 |some full=>∀b:Bool,(full=true->b=false)->K ⟨put st.tm d (.M (.bool (neg != b))),st.mem⟩
 |none=>False
@[go_sem] def aLh (neg:Bool)(x:bI):gC T K ⟨d,g,.qt neg x⟩ st=adO K neg (DX (a9 st.tm x)) d st:=bq
@[go_sem] def aLi (neg full:Bool):adO K neg (some full) d st=∀b:Bool,(full=true->b=false)->K ⟨put st.tm d (.M (.bool (neg != b))),st.mem⟩:=bq
end
section
variable {tm:Nat->O} {mem:Mem}
@[go_sem] def aLj (s:Nat):a9 tm (.t s)=tm s:=bq
@[go_sem] def aLk (m:O):a9 tm (.c m)=m:=bq
@[go_sem] def aLl (s:Nat)(m:O):put tm (some s) m=eN tm s m:=bq
@[go_sem] def aLm (m:O):put tm none m=tm:=bq
@[go_sem] def aLn (s:Nat)(m:O)(t:Nat):eN tm s m t=if t=s then m else tm t:=bq
@[go_sem] def B2 (k:Key)(g:Nat)(cs:List O)(j:Key):a4 mem k g cs j=if j=k then some (g,cs) else mem j:=bq
@[go_sem] def aLo:ij mem none=mem:=bq
@[go_sem] def aLp (k:Key)(g:Nat)(cs:List O):ij mem (some (k,g,cs))=a4 mem k g cs:=bq
def gH:Option (Nat×List O)->Nat
 |none=>0
 |some (g,_)=>g+1
@[go_sem] def aLq (k:Key):bQ mem k=gH (mem k):=by unfold bQ gH;rfl
@[go_sem] def aLr:gH none=0:=bq
@[go_sem] def aLs (g:Nat)(cs:List O):gH (some (g,cs))=g+1:=bq
@[go_sem] def aLt (k:Key):emp k=none:=bq
@[go_sem] def aLu:pd tm none=some true:=bq
def Qg (m:O)(b:Bool):Option Bool :=
 match m with
 |.M (.bool t)=>some (t==b)
 |.no=>some false
 |_=>none
@[go_sem] def aLv (s:Nat)(b:Bool):pd tm (some (s,b))=Qg (tm s) b:=bq
@[go_sem] def aLw (b:Bool):Qg .no b=some false:=bq
variable (op:jF)
@[go_sem] def aLx (m:O):jn (some m)=some (m,none):=bq
@[go_sem] def aLy (x:bI):ck mem tm (.jm x)=some (a9 tm x,none):=bq
@[go_sem] def aLz (c a b:bI):ck mem tm (.pick c a b)=jn (GX (a9 tm c) (a9 tm a) (a9 tm b)):=bq
@[go_sem] def aLA (a b:O):GX (.M (.bool true)) a b=some a:=bq
@[go_sem] def aLB (a b:O):GX (.M (.bool false)) a b=some b:=bq
@[go_sem] def aLC (k:Key)(z:List O):ck mem tm (.alloc k z)=some (.ptr k (bQ mem k) 0,some (k,bQ mem k,z)):=bq
@[go_sem] def aLD (k:Key)(x:bI):ck mem tm (.box k x)=if (a9 tm x).known=true then some (.ptr k (bQ mem k) 0,some (k,bQ mem k,(a9 tm x).cells)) else none:=bq
@[go_sem] def aLE (z:List O)(ps:List (Nat×Nat×bI)):ck mem tm (.build z ps)=jn ((kJ (a9 tm) z ps).map .agg):=bq
@[go_sem] def aLF (k:Key)(z:List O)(sz len:Nat)(ps:List (Nat×Nat×bI)):ck mem tm (.ff k false z sz len ps)=jn (KI z sz len (kJ (a9 tm) z ps)):=bq
@[go_sem] def aLG (k:Key)(z:List O)(sz len:Nat)(ps:List (Nat×Nat×bI)):ck mem tm (.ff k true z sz len ps)=GY k (bQ mem k) z sz len (kJ (a9 tm) z ps):=bq
@[go_sem] def aLH (n:Nat)(dW:Bool)(x:bI):ck mem tm (.load n dW x)=jn (pc mem n dW (a9 tm x)):=bq
@[go_sem] def aLI (n:Nat)(x v:bI):ck mem tm (.store n x v)=yp mem n (a9 tm x) (a9 tm v).cells:=bq
@[go_sem] def aLJ (b:BinOp)(x y:bI):ck mem tm (.bin b x y)=jn (KF b (a9 tm x) (a9 tm y)):=bq
@[go_sem] def aLK (neg:Bool)(x y:bI):ck mem tm (.beq neg x y)=jn (KG neg (a9 tm x) (a9 tm y)):=bq
@[go_sem] def aLL (neg:Bool)(n:List Nat)(x y:bI):ck mem tm (.eqs neg n x y)=jn (KK neg n (a9 tm x) (a9 tm y)):=bq
@[go_sem] def aLM (u:UnOp)(x:bI):ck mem tm (.un u x)=jn (KH u (a9 tm x)):=bq
@[go_sem] def aLN (k:IntKind)(x:bI):ck mem tm (.conv k x)=jn (KL k (a9 tm x)):=bq
@[go_sem] def aLO (x:bI):ck mem tm (.sE x)=jn (KM (a9 tm x)):=bq
@[go_sem] def aLP (k:Key)(z:List O)(b:Nat)(x y:bI):ck mem tm (.mx k z b x y)=KW (idx (a9 tm x)) (idx (a9 tm y)) (GZ k (bQ mem k) z b):=bq
@[go_sem] def aLQ (o:Nat)(x:bI):ck mem tm (.yo o x)=jn (KN o (a9 tm x)):=bq
@[go_sem] def aLR (o n:Nat)(dW:Bool)(x:bI):ck mem tm (.BM o n dW x)=jn (KO o n dW (a9 tm x)):=bq
@[go_sem] def aLS (s:Nat)(x i:bI):ck mem tm (.qu s x i)=jn (h3 (idx (a9 tm i)) λn=>vm s n (a9 tm x)):=bq
@[go_sem] def aLT (n s:Nat)(x i:bI):ck mem tm (.o9 n s x i)=jn (h3 (idx (a9 tm i)) λm=>KP n s m (a9 tm x)):=bq
@[go_sem] def aLU (x i:bI):ck mem tm (.idxs x i)=jn (h3 (idx (a9 tm i)) λn=>KQ n (a9 tm x)):=bq
@[go_sem] def aLV (s:Nat)(x:bI)(bN J:Option bI):ck mem tm (.oI s x bN J none)=jn (h3 (jW 0 (bN.map (a9 tm))) λl=>h3 (pb (a9 tm x)) λlen=>h3 (jW len (J.map (a9 tm))) λh=>KR s l h (a9 tm x)):=bq
@[go_sem] def aLW (s:Nat)(x h m:bI)(bN:Option bI):ck mem tm (.oI s x bN (some h) (some m)) =
 jn (h3 (jW 0 (bN.map (a9 tm))) λl=>h3 (idx (a9 tm h)) λh=>h3 (idx (a9 tm m)) λm=>KS s l h m (a9 tm x)):=bq
@[go_sem] def aLX (n s:Nat)(x:bI)(bN J:Option bI):ck mem tm (.tO n s x bN J none)=jn (h3 (jW 0 (bN.map (a9 tm))) λl=>h3 (jW n (J.map (a9 tm))) λh=>BO mem n s l h (a9 tm x)):=bq
@[go_sem] def aLY (x:bI)(bN J:Option bI):ck mem tm (.DW x bN J)=jn (h3 (jW 0 (bN.map (a9 tm))) λl=>h3 (zP (a9 tm x)) λlen=>h3 (jW len (J.map (a9 tm))) λh=>KT l h (a9 tm x)):=bq
@[go_sem] def aLZ (i:Nat)(x:bI):ck mem tm (.ext i x)=jn (KU i (a9 tm x)):=bq
@[go_sem] def aL0 (x:bI):ck mem tm (.len x)=jn (h3 (pb (a9 tm x)) λn=>some (.M (.int .i64 n))):=bq
@[go_sem] def aL1 (x:bI):ck mem tm (.lens x)=jn (h3 (zP (a9 tm x)) λn=>some (.M (.int .i64 n))):=bq
@[go_sem] def aL2 (k:Key)(z:List O)(b:Nat)(s x:bI):ck mem tm (.app k z b s x)=rM mem k z b (a9 tm s) (qv mem (D z) (a9 tm x)):=bq
@[go_sem] def aL3 (z:List O)(x:bI):ck mem tm (.sH z x)=yq mem z (a9 tm x):=bq
@[go_sem] def aL4 (s:Nat)(x y:bI):ck mem tm (.sF s x y)=w2 mem s (a9 tm x) (qv mem s (a9 tm y)):=bq
@[go_sem] def aL5 (b:Bool)(x y:bI):ck mem tm (.iB b x y)=jn (KV b (a9 tm x) (a9 tm y)):=bq
@[go_sem] def aL6 (f:FuncId)(l:List bI):ck mem tm (.pa f l)=some (.fx f (l.map (a9 tm)),none):=bq
@[go_sem] def aL7 (n:Nat)(f:Nat->Option O):h3 (some n) f=f n:=bq
@[go_sem] def aL8 (n m:Nat)(f:Nat->Nat->Out):KW (some n) (some m) f=f n m:=bq
def Qh (n:Nat)(dW:Bool)(g off:Nat):Option (Nat×List O)->Option O
 |some (cV,cs)=>if cV=g then (cut cs off n).bind (rL dW) else none
 |none=>none
@[go_sem] def aL9 (n:Nat)(dW:Bool)(k:Key)(g off:Nat):pc mem n dW (.ptr k g off)=Qh n dW g off (mem k):=by unfold pc Qh;rfl
@[go_sem] def aMa (n:Nat)(dW:Bool)(g off:Nat)(cs:List O):Qh n dW g off (some (g,cs))=(cut cs off n).bind (rL dW):=by simp[Qh]
@[go_sem] def aMb (n:Nat)(dW:Bool)(ds:List Data):pc mem n dW (.M (.ptr ds))=(cut (ds.map .M) 0 n).bind (rL dW):=bq
@[go_sem] def aMc (n:Nat)(k:Key)(g off:Nat)(v:List O):yp mem n (.ptr k g off) v=KX n k g off v (mem k):=bq
@[go_sem] def aMd (cs:List O):rL true cs=some (.agg cs):=bq
@[go_sem] def aMe (m:O):rL false [m]=some m:=bq
@[go_sem] def aMf (cs:List O):(O.agg cs).cells=cs:=bq
@[go_sem] def aMg (cs:List Data):(O.M (.agg cs)).cells=cs.map .M:=bq
@[go_sem] def aMh (k:IntKind)(n:Int):(O.M (.int k n)).cells=[.M (.int k n)]:=bq
@[go_sem] def aMi (b:Bool):(O.M (.bool b)).cells=[.M (.bool b)]:=bq
@[go_sem] def aMj (l:List UInt8):(O.M (.str l)).cells=[.M (.str l)]:=bq
@[go_sem] def aMk (l:List (List Data)):(O.M (.ay l)).cells=[.M (.ay l)]:=bq
@[go_sem] def aMl (l:List Data):(O.M (.ptr l)).cells=[.M (.ptr l)]:=bq
@[go_sem] def aMm (f:FuncId)(l:List Data):(O.M (.fn f l)).cells=[.M (.fn f l)]:=bq
@[go_sem] def aMn:O.nil.cells=[.nil]:=bq
@[go_sem] def aMo (k:Key)(g s o l:Nat):(O.ref k g s o l).cells=[.ref k g s o l]:=bq
@[go_sem] def aMp (k:Key)(g o:Nat):(O.ptr k g o).cells=[.ptr k g o]:=bq
@[go_sem] def aMq (f:FuncId)(l:List O):(O.fx f l).cells=[.fx f l]:=bq
@[go_sem] def aMr (k:IntKind)(n:Nat):idx (.M (.int k (n:Int)))=some n:=by simp[idx]
@[go_sem] def aMs (k:IntKind):idx (.M (.int k 0))=some 0:=bq
@[go_sem low] def aMt (k:IntKind)(n:Int):idx (.M (.int k n))=if 0<=n then some n.toNat else none:=bq
end
attribute [go_sem] KJ KG KF KH KL KM KN KO vm KP KQ KR KS BO V8 KT KU KV jW pb zP KX w2 BP yq PV GZ GY KI KK BN PU kJ k6 cut chunk
 GW PR PS PT DX qw vl O.one O.known qv pU dC G0 KY rO rN G6 K0 Wa K1 Wb KZ V9 PW w3 keyOf jX G7 rP vo hB iC G8 oL
end Go.Mini
namespace Go.Mini
open Go
variable {P:Program} {A:Nat->Prop} {w:World} {B:e7} {mem:Mem}
def B3 (w aT:World)(a2:Nat->Prop)(sz:Nat)(es:List (List Data))(v:Value):Prop :=
 (∀e∈es,D e=sz)/\∃a cap,v=.slice a (D es) cap/\D es<=cap/\cap<=maxLen /\
  (cap=0\/∃b vs T,a=some ⟨b,0,none⟩/\w.heap.size<=b/\aT.heap[b]?=some (.cells vs T (0,0))/\cap*sz<=vs.size /\
   ∀(i:Nat) (d:Data),es.flatten[i]?=some d->∃u,vs[i]?=some u/\Den aT (λfk=>a2 fk\/fk=b) d u)
def Wz (P:Program)(f:FuncId)(vs:List Value)(A:Nat->Prop)(w:World)(B:e7)(mem:Mem):gB->Prop
 |.same r=>Calls P f vs.toArray w λe aT=>∃v,e=.returned v/\Fr (λ_=>False) w aT/\Den aT (b4 A B) r v
 |.own sz es=>Calls P f vs.toArray w λe aT=>∃v,e=.returned v/\Fr (λ_=>False) w aT/\B3 w aT (b4 A B) sz es v
 |.rel bK=>Calls P f vs.toArray w λe aT=>∃v r mem' br,e=.returned v/\eE A w B aT br mem'/\bp aT (b4 A br) br r v/\bK r mem'
 |.zQ r k=>Calls P f vs.toArray w λe aT=>∃v br,e=.returned v/\eE A w B aT br (a4 mem k (bQ mem k) [])/\bp aT (b4 A br) br (.M r) v
 |.eN r k g i c=>Calls P f vs.toArray w λe aT=>∃v br,e=.returned v/\eE A w B aT br (a4 mem k g ((rN mem k).set i c))/\bp aT (b4 A br) br (.M r) v
def Real (P : Program)(f : FuncId): Prop := ∃ fn c, P.funcs[f]? = some fn /\ fn.body = some c /\ (fn.name == "runtime.NumGoroutine") = false
def qF (P:Program)(T:ba):Prop:=∀f args mem oe,T f args mem=some oe->Real P f /\
 ∀A w B vs,fs A w B mem->dg w (b4 A B) B args vs->Wz P f vs A w B mem oe
def Qi {f:FuncId}(h:Real P f)(args:Array Value):(callFunc f args).run P w=.ok (.enter f args) w:=by
 obtain⟨fn,c,aK,ad,aH⟩:=h;have F : fn.name ≠ "runtime.NumGoroutine" := by simpa using aH
 simp[callFunc,aK,F,ad]
def Den.less {w:World}{a2 mv:Nat->Prop}(h:∀b,mv b->a2 b){d:Data}{v:Value}(Y:Den w a2 d v):Den w mv d v :=
 Y.rK (bM _) λb _ ad=>⟨rfl,λQ=>ad (h b Q)⟩
def B3.den {w aT:World}{a2:Nat->Prop}{sz:Nat}{es:List (List Data)}{v:Value}(aq:∀b,a2 b->b<w.heap.size)(h:B3 w aT a2 sz es v):Den aT a2 (.ay es) v:=by
 obtain⟨he,a,cap,rfl,F,G,af⟩:=h;rcases af with rfl|⟨b,vs,T,rfl,aS,bt,b2,cb⟩
 ·have:es=[]:=tX (by omega);subst this;exact .l0
 ·have Lj:b<aT.heap.size:=(Array.getElem?_eq_some_iff.1 bt).1;refine .ay (sz:=sz) (λi=>vs.getD i undef) F (by omega) Lj (λbx=>by have:=aq b bx;omega) he (λi J=>?_) λi d Y=>?_
  ·have aq:i<D es.flatten:=by rw[PL he];exact J
   obtain⟨u,hu,_⟩:=cb i _ (bn aq);rw[cell_of_row aT b _ vs T (0,0) bt,ks,Array.getD_eq_getD_getElem?,hu]
   rfl
  ·obtain⟨u,hu,Y⟩:=cb i d Y;rw[Array.getD_eq_getD_getElem?,hu];exact Y.less λb h => .inl h
def adP {aT:World}{sz:Nat}{es:List (List Data)}{v:Value}(k:Key)(bR:fs A w B mem)(f:Fr (λ_=>False) w aT)(h:B3 w aT (b4 A B) sz es v):
  ∃br,eE A w B aT br (a4 mem k (bQ mem k) (es.flatten.map .M))/\bp aT (b4 A br) br (.ref k (bQ mem k) sz 0 (D es)) v:=by
 obtain⟨he,a,cap,rfl,F,G,af⟩:=h;have still:=eE.still bR f;rcases af with rfl|⟨b,vs,T,rfl,aS,bt,b2,cb⟩
 ·have:es=[]:=tX (by omega);subst this;exact⟨_,still.trans (eE.yx still.dX k),.ref (hn _ _ _) (bM _) ⟨_,0,rfl,F,G,.inl rfl⟩⟩
 ·have Lj:b<aT.heap.size:=(Array.getElem?_eq_some_iff.1 bt).1
  have fQ:∀fk,(⟨bQ mem k,some b,vs.size⟩:mw).dr=some fk->w.heap.size<=fk\/∃e,B k=some e/\e.dr=some fk:=λfk kK=>by
   cases kK;exact .inl aS
  have g2:=PL he;have hmul:(D es)*sz<=cap*sz:=sN _ F;have hold:∀fk,fk<w.heap.size->(∀e,B k=some e->e.dr≠some fk)->aT.heap[fk]?=w.heap[fk]?:=λfk kK _=>f.block fk kK id;have a8:∀e,B k=some e->(⟨bQ mem k,some b,vs.size⟩:mw)=e\/e.g<(⟨bQ mem k,some b,vs.size⟩:mw).g:=λe he => .inr (DY bR k e he);refine⟨gD B k ⟨bQ mem k,some b,vs.size⟩,⟨?_,Trans.change f.size hold a8 fQ,⟨f.os,f.tape,f.output,f.size,λfk kK _=>f.block fk kK id⟩,We fQ⟩,?_⟩
  ·refine bR.ac7 (e':=⟨bQ mem k,some b,vs.size⟩) f.size hold a8 fQ (λh=>by cases h) λfk kK=>?_
   cases kK;refine⟨vs,T,bt,rfl,by rw[ar,g2];omega,λi m hm=>?_⟩
   rw[bo,dS] at hm;obtain⟨d,Y,rfl⟩:=hm;obtain⟨u,hu,tY⟩:=cb i d Y;refine⟨u,hu,.M (tY.less λfk kK=>?_)⟩;rcases kK with ⟨j,e,ag,Q⟩|aO
   ·by_cases dL:j=k
    ·subst dL;rw[hn] at ag
     cases ag
     cases Q;exact .inr rfl
    ·rw[hh B _ dL] at ag;exact .inl (.inl ⟨j,e,ag,Q⟩)
   ·exact .inl (.inr aO)
  ·exact .ref (hn _ _ _) (bM _) ⟨_,cap,rfl,F,G,.inr ⟨b,rfl,λ_=>⟨rfl,by simpa using b2⟩⟩⟩
end Go.Mini
namespace Go.Mini
open Go
variable {P:Program} {T:ba} {A:Nat->Prop} {dG w:World} {hp B:e7} {mem:Mem} {n:Nat}
structure hK (n:Nat) (A:Nat->Prop) (dG:World) (hp:e7) (a:Act) (st:bc) (w:World) (B:e7):Prop where
 ok:eE A dG hp w B st.mem
 tm:∀s,bp w (b4 A B) B (st.tm s) (a.eval (.tmp s))
 sz:a.tmps.size=n
 Lk:a.defers=[]
def hK.tZ {a:Act}{st:bc}(h:hK n A dG hp a st w B)(x:Operand)(y:bI)(Q:dI x=some y):bp w (b4 A B) B (a9 st.tm y) (a.eval x):=by
 cases x<;>simp only[dI,cl,dS,reduceCtorEq] at Q
 ·subst Q;exact h.tm _
 ·obtain⟨m,hm,rfl⟩:=Q;exact aqQ hm
 ·subst Q;exact .fx (vs:=[]) rfl λi d v F=>by simp at F
def ar7 {a:Act}{s:Nat}{v:Value}(h:s<a.tmps.size):(a.put (some s) v).eval (.tmp s)=v:=by
 simp[Act.eval,Act.put,h]
def hK.put {a:Act}{st:bc}{aT:World}{br:e7}{mem':Mem}{dst:Option Nat}{r:O}{v:Value}(h:hK n A dG hp a st w B)(X:eE A w B aT br mem')(aa:bp aT (b4 A br) br r v)
  (Y:dst.all (λd=>decide (d<n))=true):hK n A dG hp (a.put dst v) ⟨Mini.put st.tm dst r,mem'⟩ aT br:=by
 refine⟨h.ok.trans X,λs=>?_,?_,?_⟩
 ·cases dst with
  |none=>exact (h.tm s).rK X.m9
  |some d =>
   simp only[Option.all_some,decide_eq_true_eq] at Y
   by_cases Ll:s=d
   ·subst Ll;rw[ar7 (by rw[h.sz];exact Y)];simp only[Mini.put,eN,if_true];exact aa
   ·rw[Act.eval_put (λxb F G=>by cases F;cases G;exact Ll rfl)];simp only[Mini.put,eN,ae Ll];exact (h.tm s).rK X.m9
 ·cases dst<;>simp[Act.put,h.sz]
 ·cases dst<;>simp[Act.put,h.Lk]
def WA {a:Act}{st:bc}{ops:Array Oper}{o:Oper}{g:Option (Nat×Bool)}{b:Bool}(h:hK n A dG hp a st w B)(a8:K6 ops o.guard=some g)(ad:pd st.tm g=some b):
  Region.wanted o (yielded ops a.tmps)=b:=by
 unfold Region.wanted
 cases w6:o.guard with
 |none =>
  rw[w6] at a8;simp only[K6,cl] at a8;subst a8;simp only[pd,cl] at ad;exact ad
 |some p =>
  obtain⟨j,c⟩:=p;rw[w6] at a8;simp only[K6] at a8
  split at a8
  ·rename_i s X;simp only[cl] at a8;subst a8;have aA:=h.tm s
   have al:yielded ops a.tmps j=match a.eval (.tmp s) with|.bool b=>some b|_=>none:=by
    unfold yielded;rw[X];simp only[ng,Act.eval,Array.getD_eq_getD_getElem?]
    cases a.tmps[s]? with
    |none=>rfl
    |some v=>cases v<;>rfl
   simp only[pd] at ad;simp only[al]
   split at ad
   ·rename_i t bz;rw[bz] at aA
    cases aA with
    |M aA =>
     generalize a.eval (.tmp s)=u at *
     cases aA;simp only[cl] at ad;subst ad
     cases t<;>cases c<;>simp
   ·rename_i bz;rw[bz] at aA;generalize a.eval (.tmp s)=u at *
    cases aA;simp only[cl] at ad;subst ad
    rfl
   ·cases ad
  ·cases a8
def adQ {kb:Nat}{own:List Nat}{dst:Option Nat}{ty:TypeId}{op:Op}{f:FuncId}{args:List bI}(h:jY P kb own dst ty op=some (.call f args)):
  ∃c:Call,op=.call c/\c.callee=.value (.func f)/\c.args.toList.mapM dI=some args:=by
 cases op<;>simp only[jY,zS,w5] at h
 case call c =>
  refine⟨c,rfl,?_⟩;unfold yt at h
  (repeat' split at h)<;>simp_all [ek,dS]
 all_goals ((repeat' split at h)<;>simp_all [ek,dS])
def ar8 {kb:Nat}{own:List Nat}{dst:Option Nat}{ty:TypeId}{op:Op}{f:FuncId}{bN:Nat}{args:List bI}(h:jY P kb own dst ty op=some (.my bN f args)):
  ∃c:Call,op=.call c/\c.callee=.value (.func f)/\c.args.toList.mapM dI=some args:=by
 cases op<;>simp only[jY,zS,w5] at h
 case call c =>
  refine⟨c,rfl,?_⟩;unfold yt at h
  (repeat' split at h)<;>simp_all [ek,dS]
  all_goals
   obtain⟨_,F,_,rfl,rfl⟩:=h;exact⟨rfl,F⟩
 all_goals ((repeat' split at h)<;>simp_all [ek,dS])
def ar9 {kb:Nat}{own:List Nat}{dst:Option Nat}{ty:TypeId}{op:Op}{f:FuncId}{bN:Nat}{args:List bI}(h:jY P kb own dst ty op=some (.tP bN f args)):
  ∃c:Call,op=.call c/\c.callee=.value (.func f)/\c.args.toList.mapM dI=some args:=by
 cases op<;>simp only[jY,zS,w5] at h
 case call c =>
  refine⟨c,rfl,?_⟩;unfold yt at h
  (repeat' split at h)<;>simp_all [ek,dS]
  all_goals
   obtain⟨_,F,_,rfl,rfl⟩:=h;exact⟨rfl,F⟩
 all_goals ((repeat' split at h)<;>simp_all [ek,dS])
def asa {kb:Nat}{own:List Nat}{dst:Option Nat}{ty:TypeId}{op:Op}{f:FuncId}{bN:Nat}{args:List bI}(h:jY P kb own dst ty op=some (.sG bN f args)):
  ∃c:Call,op=.call c/\c.callee=.value (.func f)/\c.args.toList.mapM dI=some args:=by
 cases op<;>simp only[jY,zS,w5] at h
 case call c =>
  refine⟨c,rfl,?_⟩;unfold yt at h
  (repeat' split at h)<;>simp_all [ek,dS]
  all_goals
   obtain⟨_,F,_,rfl,rfl⟩:=h;exact⟨rfl,F⟩
 all_goals ((repeat' split at h)<;>simp_all [ek,dS])
def adR {kb:Nat}{own:List Nat}{dst:Option Nat}{ty:TypeId}{op:Op}{f:FuncId}{k:Key}{sz:Nat}{args:List bI}(h:jY P kb own dst ty op=some (.m8 k sz f args)):
  ∃c:Call,op=.call c/\c.callee=.value (.func f)/\c.args.toList.mapM dI=some args:=by
 cases op<;>simp only[jY,zS,w5] at h
 case call c =>
  refine⟨c,rfl,?_⟩;unfold yt at h
  (repeat' split at h)<;>simp_all [ek,dS]
  obtain⟨_,_,_,_,_,F,_,_,rfl,rfl⟩:=h;exact⟨rfl,F⟩
 all_goals ((repeat' split at h)<;>simp_all [ek,dS])
def asb {kb:Nat}{own:List Nat}{dst:Option Nat}{ty:TypeId}{op:Op}{f:bI}{args:List bI}(h:jY P kb own dst ty op=some (.jV f args)):
  ∃(c:Call) (x:Operand),op=.call c/\c.callee=.value x/\dI x=some f/\c.args.toList.mapM dI=some args:=by
 cases op<;>simp only[jY,zS,w5] at h
 case call c =>
  refine⟨c,?_⟩;unfold yt at h
  (repeat' split at h)<;>simp_all [ek,dS]
 all_goals ((repeat' split at h)<;>simp_all [ek,dS])
def asc {kb:Nat}{own:List Nat}{dst:Option Nat}{ty:TypeId}{op:Op}{neg:Bool}{x:bI}(h:jY P kb own dst ty op=some (.qt neg x)):
  ∃(t e:TypeId) (y y':Operand) (z:TypeId),op=.binOp (if neg then .neq else .eql) t y y' z/\Wd y'=true/\P.underlying t=some (.slice e)/\dI y=some x:=by
 cases op<;>simp only[jY,zS,w5] at h
 case call c =>
  unfold yt at h
  (repeat' split at h)<;>simp_all [ek,dS]
 case binOp bop t y y' z =>
  (repeat' split at h)<;>simp_all [ek,dS]
  all_goals
   obtain⟨F,rfl⟩:=h;exact⟨_,_,_,_,⟨rfl,rfl,rfl⟩,by assumption,by assumption,F⟩
 all_goals ((repeat' split at h)<;>simp_all [ek,dS])
end Go.Mini
namespace Go.Mini
open Go
variable {P:Program} {T:ba} {A:Nat->Prop} {dG w:World} {hp B:e7} {mem:Mem} {n:Nat}
def asd {t e:TypeId}{y y':Operand}{m:O}{u v:Value}{a2:Nat->Prop}{full:Bool}(neg:Bool)(bz:P.underlying t=some (.slice e))(hm:bp w a2 B m u)(aK:DX m=some full)(aA:v=.slice none 0 0):
  ∃b:Bool,(full=true->b=false)/\((do eqGuard (if neg then .neq else .eql) t y y' u v;binOp (if neg then .neq else .eql) t u v:Sem Value)).run P w=.ok (.bool (neg != b)) w:=by
 subst aA
 have shape:∃a len cap,u=.slice a len cap/\(full=true->a.isNone=false):=by
  cases m<;>simp only[DX,reduceCtorEq] at aK
  case M d =>
   cases d<;>simp only[DX,cl,reduceCtorEq] at aK
   cases hm with
   |M Y =>
    cases Y with
    |l0=>exact⟨_,_,_,rfl,λh=>by cases aK;cases h⟩
    |ay=>exact⟨_,_,_,rfl,λ_=>rfl⟩
  case nil =>
   cases hm with
   |nil=>exact⟨_,_,_,rfl,λh=>by cases aK;cases h⟩
  case ref k g sz off len =>
   cases hm with
   |ref he a8 aa =>
    obtain⟨a,cap,rfl,F,G,af⟩:=aa;refine⟨_,_,_,rfl,λh=>?_⟩;simp only[cl] at aK;subst aK;simp only[decide_eq_true_eq] at h;rcases af with af|⟨b,rfl,_⟩
    ·omega
    ·rfl
 obtain⟨a,len,cap,rfl,ad⟩:=shape;refine⟨a.isNone,ad,?_⟩
 have he:∀d,(Op.equalIn (d+1) t (.slice a len cap) (.slice none 0 0)).run P w=.ok a.isNone w:=λd=>by
  unfold Op.equalIn;simp only[Sem.run_bind,run_underlying bz,Result.andThen_ok]
  cases a<;>rfl
 have heq:(Op.equal t (.slice a len cap) (.slice none 0 0)).run P w=.ok a.isNone w:=he 9999;rw[PZ (by simp) (by simp)]
 cases neg
 ·simp only[lD,if_false,Sem.run_bind,Sem.run_pure,Result.andThen_ok];show (do pure (Value.bool (<-Op.equal t (.slice a len cap) (.slice none 0 0))):Sem Value).run P w=_
  simp[heq]
 ·simp only[if_true,Sem.run_bind,Sem.run_pure,Result.andThen_ok];show (do pure (Value.bool (!(<-Op.equal t (.slice a len cap) (.slice none 0 0)))):Sem Value).run P w=_
  simp[heq]
structure WB (P:Program) (n kb:Nat) (own:List Nat) (ops:Array Oper) (o:Oper) (i:cq):Prop where
 dst:i.dst=o.dst
 guard:K6 ops o.guard=some i.g
 op:i.op=(jY P kb own o.dst o.type o.op).getD .bad
 lt:o.dst.all (λd=>decide (d<n))=true
def adS {kb:Nat}{own:List Nat}{ops:Array Oper}{o:Oper}{i:cq}(h:BQ P n kb own ops o=some i):WB P n kb own ops o i:=by
 unfold BQ at h
 split at h
 ·rename_i g a8
  split at h
  ·rename_i aq
   cases h;exact⟨rfl,a8,rfl,aq⟩
  ·cases h
 ·cases h
def ase {K:bc->Prop}{i:cq}{st:bc}(h:gC T K i st):
  (∃m e,ck st.mem st.tm i.op=some (m,e)/\K ⟨put st.tm i.dst m,ij st.mem e⟩) \/
  (∃f args,i.op=.call f args/\vn T K st i.dst f (args.map (a9 st.tm))) \/
  (∃k sz f args es,i.op=.m8 k sz f args/\T f (args.map (a9 st.tm)) st.mem=some (.own sz es)/\K ⟨put st.tm i.dst (.ref k (bQ st.mem k) sz 0 (D es)),a4 st.mem k (bQ st.mem k) (es.flatten.map .M)⟩) \/
  (∃f args,i.op=.jV f args/\((∃g eM,a9 st.tm f=.fx g eM/\vn T K st i.dst g (args.map (a9 st.tm)++eM))\/(∃g ds,a9 st.tm f=.M (.fn g ds)/\vn T K st i.dst g (args.map (a9 st.tm)++ds.map .M)))) \/
  (∃neg x full,i.op=.qt neg x/\DX (a9 st.tm x)=some full/\∀b:Bool,(full=true->b=false)->K ⟨put st.tm i.dst (.M (.bool (neg != b))),st.mem⟩):=by
 obtain⟨dst,g,op⟩:=i;unfold gC at h
 split at h
 ·rename_i f args nc;exact .inr (.inl ⟨f,args,nc,h⟩)
 ·rename_i k sz f args nc
  split at h
  ·rename_i et es he
   split at h
   ·rename_i X;subst X;exact .inr (.inr (.inl ⟨k,_,f,args,es,nc,he,h⟩))
   ·cases h
  ·cases h
 ·rename_i f args nc;refine .inr (.inr (.inr (.inl ⟨f,args,nc,?_⟩)))
  split at h
  ·rename_i g eM aK;exact .inl ⟨g,eM,aK,h⟩
  ·rename_i g ds aK;exact .inr ⟨g,ds,aK,h⟩
  ·cases h
 ·rename_i neg x nc
  split at h
  ·rename_i full aK;exact .inr (.inr (.inr (.inr ⟨neg,x,full,nc,aK,h⟩)))
  ·cases h
 ·split at h
  ·rename_i m e he;exact .inl ⟨m,e,he,h⟩
  ·cases h
def getD_some {α:Type}{x:Option α}{b c:α}(h:c=x.getD b)(ad:c≠b):x=some c:=by
 cases x with
 |none=>exact absurd h ad
 |some y=>simp at h;rw[h]
def adT (cQ:qF P T){K:bc->Prop}{a:Act}{st:bc}{o:Oper}{aN:Exit->Act->World->Prop}{f:FuncId}{args:List O}{vs:List Value}(h:hK n A dG hp a st w B)(aq:o.dst.all (λd=>decide (d<n))=true)
  (aA:dg w (b4 A B) B args vs) (I:vn T K st o.dst f args) (nf:Real P f->(execOp a.eval o).run P w=.ok (.enter f vs.toArray) w) :
  o.wp P a w (λj2 aT=>∃dQ br,K dQ/\hK n A dG hp j2 dQ aT br) aN:=by
 unfold vn at I;unfold Oper.wp
 cases im:T f args st.mem with
 |none=>rw[im] at I;exact I.elim
 |some oe =>
  obtain⟨mF,jK⟩:=cQ f args st.mem oe im;have H:=jK A w B vs h.ok.dX aA;rw[im] at I;rw[nf mF]
  cases oe with
  |same r =>
   refine Calls.mono H λe aT he=>?_;obtain⟨v,rfl,bw,Y⟩:=he;exact⟨_,B,I,h.put (.still h.ok.dX bw) (.M Y) aq⟩
  |own sz es =>
   refine Calls.mono H λe aT he=>?_;obtain⟨v,rfl,bw,Y⟩:=he;refine⟨_,B,I,h.put (.still h.ok.dX bw) (.M (Y.den λb ad=>?_)) aq⟩;rcases ad with ad|ad
   ·exact h.ok.dX.w0 ad
   ·exact h.ok.dX.lt b ad
  |zQ r k =>
   refine Calls.mono H λe aT he=>?_;obtain⟨v,br,rfl,c9,nb⟩:=he;exact⟨_,br,I,h.put c9 nb aq⟩
  |rel bK =>
   refine Calls.mono H λe aT he=>?_;obtain⟨v,r,mem',br,rfl,X,Y,gI⟩:=he;exact⟨_,br,I r mem' gI,h.put X Y aq⟩
  |eN r k g i c =>
   refine Calls.mono H λe aT he=>?_;obtain⟨v,br,rfl,X,Y⟩:=he;exact⟨_,br,I,h.put X Y aq⟩
def asf {a2:Nat->Prop}{m:O}{u:Value}{g:FuncId}{eM:List O}(hm:bp w a2 B m u)(h:m=.fx g eM\/∃ds,m=.M (.fn g ds)/\eM=ds.map .M):
  ∃cs:List Value,u=.func (.func g) #[] cs.toArray/\dg w a2 B eM cs:=by
 rcases h with rfl|⟨ds,rfl,rfl⟩
 ·cases hm with
  |fx ak Y=>exact⟨_,rfl,ak,Y⟩
 ·cases hm with
  |M Y =>
   cases Y with
   |fn ak Y=>exact⟨_,rfl,dg.M ak Y⟩
def asg (cQ:qF P T){K:bc->Prop}{kb:Nat}{own:List Nat}{ops:Array Oper}{a:Act}{st:bc}{o:Oper}{i:cq}{aN:Exit->Act->World->Prop}(h:hK n A dG hp a st w B)(J:WB P n kb own ops o i)
  (I:gC T K i st):o.wp P a w (λj2 aT=>∃dQ br,K dQ/\hK n A dG hp j2 dQ aT br) aN:=by
 have nc:=J.op;rcases ase I with ⟨m,e,X,dM⟩|⟨f,args,he,dM⟩|⟨k,sz,f,args,es,he,im,dM⟩|⟨f,args,he,dM⟩|⟨neg,x,full,he,aK,dM⟩
 ·have a3:jY P kb own o.dst o.type o.op=some i.op:=getD_some nc (by
   intro ad;rw[ad] at X
   cases X)
  obtain⟨Hs,v,aT,br,nf,gJ,c9,aA⟩:=adL h.ok.dX h.tZ a3 X;unfold Oper.wp;rw[nf];rw[J.dst] at dM;have Lm:=h.put c9 aA J.lt;rcases gJ with rfl|⟨rfl,rfl⟩
  ·exact⟨_,br,dM,Lm⟩
  ·exact⟨_,br,dM,Lm⟩
 ·have a3:jY P kb own o.dst o.type o.op=some i.op:=getD_some nc (by rw[he];simp);rw[he] at a3;obtain⟨c,H,mG,og⟩:=adQ a3;rw[J.dst] at dM;refine adT cQ h J.lt (yD h.tZ og) dM λmF=>?_;obtain⟨dst,op,type,pos,after,guard⟩:=o;simp only at H;subst H;obtain⟨callee,z3,Qj⟩:=c;simp only at mG;subst mG;simp only[execOp,resolve,Deferred.ofValue,Act.eval,invoke,Sem.run_bind,Sem.run_pure,Result.andThen_ok,Qi mF];rw[B0 z3];simp
 ·have a3:jY P kb own o.dst o.type o.op=some i.op:=getD_some nc (by rw[he];simp);rw[he] at a3;obtain⟨c,H,mG,og⟩:=adR a3;rw[J.dst] at dM;obtain⟨mF,jK⟩:=cQ f _ st.mem _ im;have hE:=jK A w B _ h.ok.dX (yD h.tZ og);have aq:=J.lt;obtain⟨dst,op,type,pos,after,guard⟩:=o;simp only at H;subst H;obtain⟨callee,z3,Qj⟩:=c;simp only at mG og;subst mG
  have nf:(execOp a.eval ⟨dst,.call ⟨.value (.func f),z3,Qj⟩,type,pos,after,guard⟩).run P w=.ok (.enter f (z3.toList.map a.eval).toArray) w:=by
   simp only[execOp,resolve,Deferred.ofValue,Act.eval,invoke,Sem.run_bind,Sem.run_pure,Result.andThen_ok,Qi mF];rw[B0 z3];simp
  unfold Oper.wp;rw[nf];refine Calls.mono hE λe aT p0=>?_;obtain⟨v,rfl,bw,Y⟩:=p0;obtain⟨br,c9,aA⟩:=adP k h.ok.dX bw Y;exact⟨_,br,dM,h.put c9 aA aq⟩
 ·have a3:jY P kb own o.dst o.type o.op=some i.op:=getD_some nc (by rw[he];simp);rw[he] at a3;obtain⟨c,x,H,mG,Q,og⟩:=asb a3;rw[J.dst] at dM;have ash:=h.tZ _ _ Q
  have main:∀g eM,(a9 st.tm f=.fx g eM\/∃ds,a9 st.tm f=.M (.fn g ds)/\eM=ds.map .M)->vn T K st o.dst g (args.map (a9 st.tm)++eM)->o.wp P a w (λj2 aT=>∃dQ br,K dQ/\hK n A dG hp j2 dQ aT br) aN:=by
   intro g eM a8 dM;obtain⟨cs,hu,b0⟩:=asf ash a8;refine adT cQ h J.lt ((yD h.tZ og).append b0) dM λmF=>?_;obtain⟨dst,op,type,pos,after,guard⟩:=o;simp only at H;subst H;obtain⟨callee,z3,Qj⟩:=c;simp only at mG;subst mG;simp only[execOp,resolve,hu,Deferred.ofValue,invoke,Sem.run_bind,Sem.run_pure,Result.andThen_ok,Qi mF];rw[B0 z3];simp
  rcases dM with ⟨g,eM,a8,dM⟩|⟨g,ds,a8,dM⟩
  ·exact main g eM (.inl a8) dM
  ·exact main g _ (.inr ⟨ds,a8,rfl⟩) dM
 ·have a3:jY P kb own o.dst o.type o.op=some i.op:=getD_some nc (by rw[he];simp);rw[he] at a3;obtain⟨t,e,y,y',z,H,aH,bz,al⟩:=asc a3;rw[J.dst] at dM
  have WD:a.eval y' = .slice none 0 0:=by
   unfold Wd at aH
   split at aH
   ·rfl
   ·cases aH
  obtain⟨b,ad,nf⟩:=asd (y:=y) (y':=y') neg bz (h.tZ _ _ al) aK WD;obtain⟨dst,op,type,pos,after,guard⟩:=o;simp only at H;subst H;unfold Oper.wp
  have:(execOp a.eval ⟨dst,.binOp (if neg then .neq else .eql) t y y' z,type,pos,after,guard⟩).run P w=.ok (.value (.bool (neg != b))) w:=by
   simp only[execOp];rw[Sem.run_bind,nf]
   rfl
  rw[this];exact⟨_,B,dM b ad,h.put (.refl h.ok.dX) (.M .bool) J.lt⟩
end Go.Mini
namespace Go.Mini
open Go
variable {T:ba}
def fM {tm tm':Nat->O}{x:bI}(h:∀s∈fm x,tm s=tm' s):a9 tm x=a9 tm' x:=by
 cases x with
 |t s=>exact h s (by simp[fm])
 |c m=>rfl
def map_congr {tm tm':Nat->O}{l:List bI}(h:∀s∈l.flatMap fm,tm s=tm' s):l.map (a9 tm)=l.map (a9 tm') :=
 mH λx Q=>fM λs X=>h s (yE.2 ⟨x,Q,X⟩)
def Qk {tm tm':Nat->O}{l:List bI}(h:∀s∈l.flatMap fm,tm s=tm' s):(l.map λx=>qw (a9 tm x))=l.map λx=>qw (a9 tm' x) :=
 mH λx Q=>by rw[fM λs X=>h s (yE.2 ⟨x,Q,X⟩)]
def Eh {tm tm':Nat->O}{x:Option bI}(h:∀s∈yu x,tm s=tm' s):x.map (a9 tm)=x.map (a9 tm'):=by
 cases x with
 |none=>rfl
 |some x =>
  cases x with
  |t s=>simp[a9,h s (by simp[yu])]
  |c m=>rfl
def WE {tm tm':Nat->O}:∀{ps:List (Nat×Nat×bI)} (cs:List O),(∀s∈ps.flatMap (λp=>fm p.2.2),tm s=tm' s)->kJ (a9 tm) cs ps=kJ (a9 tm') cs ps
 | [],_,_=>rfl
 |(o,s,x)::ps,cs,h=>by
  have F:a9 tm x=a9 tm' x:=fM λt bz=>h t (yE.2 ⟨(o,s,x),by simp,bz⟩);simp only[kJ,F]
  split
  ·exact WE _ λt bz=>h t (by simp only[List.flatMap_cons,iF];exact .inr bz)
  ·rfl
def asi {mem:Mem}{tm tm':Nat->O}{op:jF}(h:∀s∈sK op,tm s=tm' s):ck mem tm op=ck mem tm' op:=by
 cases op<;>simp only[sK,iF] at h
 case jm x=>simp only[ck,k7,fM h]
 case pick c a b=>simp only[ck,k7,fM (λs X=>h s (.inl (.inl X))),fM (λs X=>h s (.inl (.inr X))),fM (λs X=>h s (.inr X))]
 case alloc=>rfl
 case box k x=>simp only[ck,fM h]
 case build z ps=>simp only[ck,k7,WE _ h]
 case ff k o z sz len ps=>cases o<;>simp only[ck,k7,WE _ h]
 case load n dW x=>simp only[ck,fM h]
 case store n x v=>simp only[ck,fM (λs X=>h s (.inl X)),fM (λs X=>h s (.inr X))]
 case bin o x y=>simp only[ck,k7,fM (λs X=>h s (.inl X)),fM (λs X=>h s (.inr X))]
 case beq o x y=>simp only[ck,k7,fM (λs X=>h s (.inl X)),fM (λs X=>h s (.inr X))]
 case eqs o l x y=>simp only[ck,k7,fM (λs X=>h s (.inl X)),fM (λs X=>h s (.inr X))]
 case qt=>rfl
 case un o x=>simp only[ck,k7,fM h]
 case conv k x=>simp only[ck,k7,fM h]
 case sE x=>simp only[ck,k7,fM h]
 case mx k z b x y=>simp only[ck,fM (λs X=>h s (.inl X)),fM (λs X=>h s (.inr X))]
 case yo o x=>simp only[ck,k7,fM h]
 case BM o n dW x=>simp only[ck,k7,fM h]
 case qu s x i=>simp only[ck,k7,fM (λs X=>h s (.inl X)),fM (λs X=>h s (.inr X))]
 case o9 n s x i=>simp only[ck,k7,fM (λs X=>h s (.inl X)),fM (λs X=>h s (.inr X))]
 case idxs x i=>simp only[ck,k7,fM (λs X=>h s (.inl X)),fM (λs X=>h s (.inr X))]
 case oI s x a b c =>
  have F:=fM (λs X=>h s (.inl (.inl (.inl X))));have G:=Eh (λs X=>h s (.inl (.inl (.inr X))));have af:=Eh (λs X=>h s (.inl (.inr X)));have aS:=Eh (λs X=>h s (.inr X))
  cases b<;>cases c<;>simp only[iY,WG,cl] at af aS<;>simp only[ck,k7,iY,WG,F,G,af,aS]
 case tO n s x a b c =>
  have F:=fM (λs X=>h s (.inl (.inl (.inl X))));have G:=Eh (λs X=>h s (.inl (.inl (.inr X))));have af:=Eh (λs X=>h s (.inl (.inr X)))
  cases c<;>simp only[ck,k7,F,G,af]
 case DW x a b=>simp only[ck,k7,fM (λs X=>h s (.inl (.inl X))),Eh (λs X=>h s (.inl (.inr X))),Eh (λs X=>h s (.inr X))]
 case ext i x=>simp only[ck,k7,fM h]
 case len x=>simp only[ck,k7,fM h]
 case lens x=>simp only[ck,k7,fM h]
 case app k z b s x=>simp only[ck,fM (λs X=>h s (.inl X)),fM (λs X=>h s (.inr X))]
 case sF s d x=>simp only[ck,fM (λs X=>h s (.inl X)),fM (λs X=>h s (.inr X))]
 case sH z x=>simp only[ck,fM h]
 case iB o x y=>simp only[ck,k7,fM (λs X=>h s (.inl X)),fM (λs X=>h s (.inr X))]
 case call=>rfl
 case m8=>rfl
 case jV=>rfl
 case my=>rfl
 case tP=>rfl
 case sG=>rfl
 case pa f l=>simp only[ck,k7,map_congr h]
 case bad=>rfl
def adU {mem:Mem}{tm tm':Nat->O}{op:jF}(h:∀s∈sK op,tm s=tm' s):hB T mem tm op=hB T mem tm' op:=by
 cases op
 case call f l =>
  have:=Qk (l:=l) (tm:=tm) (tm':=tm') (by simpa [sK] using h);simp only[hB,this]
 case m8 k sz f l =>
  have:=Qk (l:=l) (tm:=tm) (tm':=tm') (by simpa [sK] using h);simp only[hB,this]
 case jV=>rfl
 case qt=>rfl
 case my bN f l =>
  have:=map_congr (l:=l) (tm:=tm) (tm':=tm') (by simpa [sK] using h);simp only[hB,this]
 case tP j f l =>
  have F:=map_congr (l:=l) (tm:=tm) (tm':=tm') (by simpa [sK] using h);have G:=Qk (l:=l) (tm:=tm) (tm':=tm') (by simpa [sK] using h);simp only[hB,F,G]
 case sG j f l =>
  have F:=map_congr (l:=l) (tm:=tm) (tm':=tm') (by simpa [sK] using h);have G:=Qk (l:=l) (tm:=tm) (tm':=tm') (by simpa [sK] using h);simp only[hB,F,G]
 all_goals exact asi (mem:=mem) h
def adV {tm tm':Nat->O}{op:jF}(h:∀s∈sK op,tm s=tm' s):dC tm op=dC tm' op:=by
 cases op<;>simp only[sK,iF] at h<;>try rfl
 case ff k o z sz len ps=>cases o<;>rfl
 case load n dW x=>simp only[dC,fM h]
 case tO n s x a b c=>simp only[dC,fM (λs X=>h s (.inl (.inl (.inl X))))]
 case store n x v=>simp only[dC,fM (λs X=>h s (.inl X))]
 case app k z b s x=>simp only[dC,fM (λs X=>h s (.inl X)),fM (λs X=>h s (.inr X))]
 case sF s d x=>simp only[dC,fM (λs X=>h s (.inl X)),fM (λs X=>h s (.inr X))]
 case my bN f l=>simp only[dC,map_congr h]
 case tP j f l=>simp only[dC,map_congr h]
 case sG j f l=>simp only[dC,map_congr h]
 case sH z x=>simp only[dC,fM h]
def asj {n:Nat}{m:O}{aN:Key->Prop}(h:∀x∈G0 n m,aN x.key):∀j∈keyOf m,aN j:=by
 cases m<;>simp_all [G0,keyOf,nA.key]
def adW {mem mem':Mem}{sz:Nat}{m:O}(h:∀k∈keyOf m,mem k=mem' k):qv mem sz m=qv mem' sz m:=by
 cases m<;>try rfl
 case M d=>cases d<;>rfl
 simp only[qv];rw[h _ (by simp[keyOf])]
def asl {mem mem':Mem}{k:Key}{z:List O}{b:Nat}{m:O}{row:Option (Nat×List O)}(I:mem k=mem' k)(h:∀j∈keyOf m,mem j=mem' j):rM mem k z b m row=rM mem' k z b m row:=by
 cases m<;>cases row<;>try rfl
 ·simp only[rM,bQ,I]
 ·simp only[rM];rw[h _ (by simp[keyOf])]
def asm {mem mem':Mem}{sz:Nat}{m:O}{row:Option (Nat×List O)}(h:∀j∈keyOf m,mem j=mem' j):w2 mem sz m row=w2 mem' sz m row:=by
 cases m<;>cases row<;>try rfl
 simp only[w2];rw[h _ (by simp[keyOf])]
def asn {mem mem':Mem}{z:List O}{m:O}(h:∀j∈keyOf m,mem j=mem' j):yq mem z m=yq mem' z m:=by
 cases m<;>try rfl
 simp only[yq];rw[h _ (by simp[keyOf])]
def aso {mem mem':Mem}{n:Nat}{dW:Bool}{m:O}(h:∀j∈keyOf m,mem j=mem' j):pc mem n dW m=pc mem' n dW m:=by
 cases m<;>try rfl
 case M d=>cases d<;>rfl
 simp only[pc];rw[h _ (by simp[keyOf])]
def asp {mem mem':Mem}{n:Nat}{m:O}{v:List O}(h:∀j∈keyOf m,mem j=mem' j):yp mem n m v=yp mem' n m v:=by
 cases m<;>try rfl
 simp only[yp];rw[h _ (by simp[keyOf])]
def asq {mem mem':Mem}{n s a b:Nat}{m:O}(h:∀j∈keyOf m,mem j=mem' j):BO mem n s a b m=BO mem' n s a b m:=by
 cases m<;>try rfl
 simp only[BO];rw[h _ (by simp[keyOf])]
def asr {mem mem':Mem}{tm:Nat->O}{op:jF}(h:∀x∈dC tm op,mem x.key=mem' x.key):ck mem tm op=ck mem' tm op:=by
 have Hs:∀k,mem k=mem' k->bQ mem k=bQ mem' k:=λk I=>by simp only[bQ,I]
 cases op<;>try rfl
 case alloc k z=>simp only[ck,Hs k (h (.hA k) (by simp[dC]))]
 case box k x=>simp only[ck,Hs k (h (.hA k) (by simp[dC]))]
 case ff k o z sz len ps =>
  cases o
  ·rfl
  ·simp only[ck,Hs k (h (.hA k) (by simp[dC]))]
 case mx k z b x y=>simp only[ck,Hs k (h (.hA k) (by simp[dC]))]
 case load n dW x =>
  simp only[ck];rw[aso (asj (aN:=λj=>mem j=mem' j) h)]
 case tO n s x a b c =>
  cases c
  ·simp only[ck]
   congr 2
   funext l
   congr 1
   funext aX
   exact asq λj ag=>h (.hA j) (by simp[dC,ag])
  ·rfl
 case store n x v =>
  simp only[ck];exact asp λj ag=>h (.hA j) (by simp[dC,ag])
 case app k z b s x =>
  have cj:∀j,j=k\/j∈keyOf (a9 tm s)\/j∈keyOf (a9 tm x)->mem j=mem' j:=λj ag=>h (.hA j) (by simpa [dC] using ag);simp only[ck,adW (sz:=D z) (λj ag=>cj j (.inr (.inr ag)))];exact asl (cj k (.inl rfl)) λj ag=>cj j (.inr (.inl ag))
 case sF s d x =>
  have cj:∀j,j∈keyOf (a9 tm d)\/j∈keyOf (a9 tm x)->mem j=mem' j:=λj ag=>h (.hA j) (by simpa [dC] using ag);simp only[ck,adW (sz:=s) (λj ag=>cj j (.inr ag))];exact asm λj ag=>cj j (.inl ag)
 case sH z x =>
  simp only[ck];exact asn λj ag=>h (.hA j) (by simp[dC,ag])
def adX {mem mem':Mem}{tm:Nat->O}{op:jF}(H:∀bN f l,op ≠ .my bN f l)(h:∀x∈dC tm op,mem x.key=mem' x.key):hB T mem tm op=hB T mem' tm op:=by
 cases op
 case call=>rfl
 case m8 k sz f l =>
  have:bQ mem k=bQ mem' k:=by
   have:=h (.hA k) (by simp[dC]);simp only[nA.key] at this;simp only[bQ,this]
  simp only[hB,this]
 case my bN f l=>exact absurd rfl (H bN f l)
 case tP j f l =>
  simp only[hB]
  cases hm:(l.map (a9 tm))[j]? with
  |none=>rfl
  |some m =>
   cases m<;>try rfl
   have:=h (.hA _) (by simp only[dC,hm,w3];exact gK);simp only[nA.key] at this;simp only[K0,this]
 case sG j f l =>
  simp only[hB]
  cases hm:(l.map (a9 tm))[j]? with
  |none=>rfl
  |some m =>
   cases m<;>try rfl
   have:=h (.hA _) (by simp only[dC,hm,w3];exact gK);simp only[nA.key] at this;simp only[K1,this]
 case jV=>rfl
 case qt=>rfl
 all_goals exact asr (mem:=mem) (mem':=mem') (tm:=tm) h
def Ql {x:Option O}{m:O}{e:Option (Key×Nat×List O)}(h:jn x=some (m,e)):e=none:=(adG h).2
def ass {mem:Mem}{tm:Nat->O}{op:jF}{m:O}{e:Option (Key×Nat×List O)}(h:ck mem tm op=some (m,e)):e=none\/(jX op=true/\∃k g cs,e=some (k,g,cs) /\ .hA k∈dC tm op):=by
 cases op<;>try (first|exact .inl (Ql h)|exact .inl (Ql (x:=some _) h))
 case alloc k z =>
  simp only[ck,cl,e2] at h;exact .inr ⟨rfl,_,_,_,h.2.symm,by simp[dC]⟩
 case box k x =>
  simp only[ck] at h
  split at h<;>simp only[cl,e2,reduceCtorEq] at h
  exact .inr ⟨rfl,_,_,_,h.2.symm,by simp[dC]⟩
 case ff k o z sz len ps =>
  cases o
  ·exact .inl (Ql h)
  ·simp only[ck,GY] at h
   (repeat' split at h)<;>simp only[cl,e2,reduceCtorEq] at h
   exact .inr ⟨rfl,_,_,_,h.2.symm,by simp[dC]⟩
 case mx k z b x y =>
  obtain⟨_,_,_,_,h⟩:=adH h;simp only[GZ] at h
  split at h<;>simp only[cl,e2,reduceCtorEq] at h
  exact .inr ⟨rfl,_,_,_,h.2.symm,by simp[dC]⟩
 case tO n s x a b c =>
  cases c
  ·exact .inl (Ql h)
  ·cases h
 case store n x v =>
  simp only[ck] at h
  cases Q:a9 tm x<;>rw[Q] at h<;>simp only[yp,reduceCtorEq] at h
  simp only[KX] at h
  (repeat' split at h)<;>simp only[cl,e2,reduceCtorEq] at h
  exact .inr ⟨rfl,_,_,_,h.2.symm,by simp[dC,Q,keyOf]⟩
 case app k z b s x =>
  simp only[ck] at h
  cases aa:qv mem (D z) (a9 tm x)<;>cases X:a9 tm s<;>rw[aa,X] at h<;>simp only[rM,reduceCtorEq] at h
  ·split at h<;>simp only[cl,e2,reduceCtorEq] at h
   exact .inr ⟨rfl,_,_,_,h.2.symm,by simp[dC]⟩
  ·simp only[mA] at h
   (repeat' split at h)<;>simp only[cl,e2,reduceCtorEq] at h
   exact .inr ⟨rfl,_,_,_,h.2.symm,by simp[dC,X,keyOf]⟩
 case sF s d x =>
  simp only[ck] at h
  cases aa:qv mem s (a9 tm x)<;>cases X:a9 tm d<;>rw[aa,X] at h<;>simp only[w2,reduceCtorEq] at h
  simp only[BP] at h
  (repeat' split at h)<;>simp only[cl,e2,reduceCtorEq] at h
  exact .inr ⟨rfl,_,_,_,h.2.symm,by simp[dC,X,keyOf]⟩
 case sH z x =>
  simp only[ck] at h
  cases X:a9 tm x<;>rw[X] at h<;>simp only[yq,reduceCtorEq] at h
  simp only[PV] at h
  (repeat' split at h)<;>simp only[cl,e2,reduceCtorEq] at h
  exact .inr ⟨rfl,_,_,_,h.2.symm,by simp[dC,X,keyOf]⟩
 all_goals cases h
def adY {mem:Mem}{j:Nat}{f:FuncId}{ms:List O}{x:Option O}{m:O}{e:Option (Key×Nat×List O)}(h:K0 T mem j f ms x=some (m,e)):
  ∃k g sz off len cs d r,x=some (.ref k g sz off len)/\mem k=some (g,cs)/\KZ sz off len cs=some d/\PW (T f (ms.set j (.M d)) emp)=some r/\m=.M r/\e=some (k,bQ mem k,[]):=by
 unfold K0 at h
 split at h
 ·rename_i k g sz off len;unfold Wa at h
  split at h
  ·rename_i cV cs hm
   split at h
   ·rename_i a8;subst a8
    split at h
    ·rename_i d Y
     split at h
     ·rename_i r aa;simp only[cl,e2] at h;exact⟨k,_,sz,off,len,cs,d,r,rfl,hm,Y,aa,h.1.symm,by rw[<-h.2];simp[bQ,hm]⟩
     ·cases h
    ·cases h
   ·cases h
  ·cases h
 ·cases h
def adZ {mem:Mem}{j:Nat}{f:FuncId}{ms:List O}{x:Option O}{m:O}{e:Option (Key×Nat×List O)}(h:K1 T mem j f ms x=some (m,e)):
  ∃k g sz off len cV cs r,x=some (.ref k g sz off len)/\mem k=some (cV,cs)/\oK cs=true/\T f (ms.set j (.ref k g sz off len)) (a4 emp k cV cs)=some (.zQ r k)/\m=.M r/\e=some (k,bQ mem k,[]):=by
 unfold K1 at h
 split at h
 ·rename_i k g sz off len;unfold Wb at h
  split at h
  ·rename_i cV cs hm
   split at h
   ·rename_i Y
    split at h
    ·rename_i r k' aa
     split at h
     ·rename_i I;subst I;simp only[cl,e2] at h;exact⟨_,g,sz,off,len,cV,cs,r,rfl,hm,Y,aa,h.1.symm,by rw[<-h.2];simp[bQ,hm]⟩
     ·cases h
    ·cases h
   ·cases h
  ·cases h
 ·cases h
def ad0 {bN:Nat}{mem:Mem}{ms:List O}{x:Option gB}{m:O}{e:Option (Key×Nat×List O)}(h:G6 bN mem ms x=some (m,e)):
  ∃r k g i c cs,x=some (.eN r k g i c)/\mem k=some (g,cs)/\m=.M r/\e=some (k,g,cs.set i c)/\KY bN ms=[.wr k i]:=by
 unfold G6 at h
 split at h
 ·rename_i k g off rest r k' cV i c
  split at h
  ·rename_i Ei cs hm
   split at h
   ·rename_i H;obtain⟨rfl,rfl,rfl⟩:=H;simp only[cl,e2] at h;exact⟨r,_,_,_,c,cs,rfl,hm,h.1.symm,h.2.symm,rfl⟩
   ·cases h
  ·cases h
 ·cases h
def WH {mem:Mem}{tm:Nat->O}{op:jF}{m:O}{e:Option (Key×Nat×List O)}(h:hB T mem tm op=some (m,e)):e=none\/(jX op=true/\∃k g cs,e=some (k,g,cs)/\(.hA k∈dC tm op\/∃i c ua,dC tm op=[.wr k i]/\mem k=some (g,ua)/\cs=ua.set i c)):=by
 have pl:ck mem tm op=some (m,e)->e=none\/(jX op=true/\∃k g cs,e=some (k,g,cs)/\(.hA k∈dC tm op\/∃i c ua,dC tm op=[.wr k i]/\mem k=some (g,ua)/\cs=ua.set i c)):=λh=>by
  rcases ass h with h|⟨F,k,g,cs,G,af⟩
  ·exact .inl h
  ·exact .inr ⟨F,k,g,cs,G,.inl af⟩
 cases op
 case call f l =>
  simp only[hB] at h
  split at h<;>simp only[cl,e2,reduceCtorEq] at h
  ·exact .inl h.2.symm
  ·exact .inl h.2.symm
 case m8 k sz f l =>
  simp only[hB] at h
  (repeat' split at h)<;>simp only[cl,e2,reduceCtorEq] at h
  exact .inr ⟨rfl,_,_,_,h.2.symm,.inl (by simp[dC])⟩
 case jV=>cases h
 case qt=>cases h
 case my bN f l =>
  obtain⟨r,k,g,i,c,cs,-,hm,-,he,aK⟩:=ad0 h;exact .inr ⟨rfl,k,g,_,he,.inr ⟨i,c,cs,aK,hm,rfl⟩⟩
 case tP j f l =>
  simp only[hB] at h;obtain⟨k,g,sz,off,len,cs,d,r,Q,hm,-,-,-,he⟩:=adY h;exact .inr ⟨rfl,k,_,_,he,.inl (by simp only[dC,Q,w3];exact gK)⟩
 case sG j f l =>
  simp only[hB] at h;obtain⟨k,g,sz,off,len,cV,cs,r,Q,hm,-,-,-,he⟩:=adZ h;exact .inr ⟨rfl,k,_,_,he,.inl (by simp only[dC,Q,w3];exact gK)⟩
 all_goals exact pl h
def ast {tm:Nat->O}{op:jF}{b:nA}(ad:b∈dC tm op):(∃k,b=.hA k)\/(∃n dW x k g off,op=.load n dW x/\a9 tm x=.ptr k g off/\b=.rd k off (off+n))\/∃bN f l,op=.my bN f l:=by
 cases op
 case load n dW x =>
  simp only[dC] at ad
  cases Q:a9 tm x<;>rw[Q] at ad<;>simp[G0] at ad
  ·exact .inl ⟨_,ad⟩
  ·exact .inr (.inl ⟨_,_,_,_,_,_,rfl,Q,ad⟩)
 case my bN f l=>exact .inr (.inr ⟨_,_,_,rfl⟩)
 case tP j f l =>
  simp only[dC] at ad
  cases hm:(l.map (a9 tm))[j]? with
  |none=>rw[hm] at ad;simp[w3] at ad
  |some m =>
   rw[hm] at ad
   cases m<;>simp[w3] at ad
   exact .inl ⟨_,ad⟩
 case sG j f l =>
  simp only[dC] at ad
  cases hm:(l.map (a9 tm))[j]? with
  |none=>rw[hm] at ad;simp[w3] at ad
  |some m =>
   rw[hm] at ad
   cases m<;>simp[w3] at ad
   exact .inl ⟨_,ad⟩
 case ff k o z sz len ps =>
  cases o<;>simp[dC] at ad;exact .inl ⟨_,ad⟩
 all_goals
  simp[dC] at ad
  try first
   |exact .inl ⟨_,ad⟩
   |(rcases ad with ⟨k,_,h⟩|⟨k,_,h⟩<;>exact .inl ⟨k,h.symm⟩)
   |(rcases ad with h|⟨k,_,h⟩|⟨k,_,h⟩<;>first|exact .inl ⟨_,h⟩|exact .inl ⟨_,h.symm⟩)
   |(obtain⟨k,_,h⟩:=ad;exact .inl ⟨k,h.symm⟩)
def asu {cs:List O}{i off n:Nat}{c:O}(h:i<off\/off+n<=i):cut (cs.set i c) off n=cut cs off n:=by
 unfold cut;rw[hL]
 split
 ·congr 1
  rcases h with h|h
  ·rw[ub h]
  ·by_cases J:i<off
   ·rw[ub J]
   ·rw[List.drop_set,ae J,List.take_set_of_le (by omega)]
 ·rfl
def asv {mem:Mem}{k g i:Nat}{c:O}{cs:List O}{n:Nat}{dW:Bool}{k' cV off:Nat}(hm:mem k=some (g,cs))(h:k'≠k\/i<off\/off+n<=i):
  pc (a4 mem k g (cs.set i c)) n dW (.ptr k' cV off)=pc mem n dW (.ptr k' cV off):=by
 by_cases I:k'=k
 ·subst I;have h:=h.resolve_left (λh=>h rfl);simp only[pc,a4,if_true,hm,asu h]
 ·simp only[pc,a4,I,if_false]
def ad1 {mem:Mem}{tm:Nat->O}{x y:jF}{m:O}{e:Option (Key×Nat×List O)}(asw:hB T mem tm x=some (m,e))(aO:rP (jX x,dC tm x) (jX y,dC tm y)=true):hB T (ij mem e) tm y=hB T mem tm y:=by
 rcases WH asw with rfl|⟨hw,k,g,cs,rfl,I⟩
 ·rfl
 ·have en:∀a∈dC tm x,∀b∈dC tm y,rO a b=true:=by
   unfold rP at aO
   simpa [hw] using aO
  have asx:∀bN f l,y=.my bN f l->dC tm y=[]:=by
   rintro bN f l rfl
   cases ad:dC tm (.my bN f l) with
   |nil=>rfl
   |cons b r =>
    exfalso
    have kK:∃k' bj,b=.wr k' bj:=by
     simp only[dC] at ad;unfold KY at ad
     split at ad
     ·cases ad;exact⟨_,_,rfl⟩
     ·cases ad
    obtain⟨k',bj,rfl⟩:=kK;have hm:nA.wr k' bj∈dC tm (.my bN f l):=by rw[ad];exact gK
    rcases I with I|⟨i,c,ua,aK,_,_⟩
    ·have:=en _ I _ hm;simp[rO] at this
    ·have:=en (.wr k i) (by rw[aK];exact gK) _ hm;simp[rO] at this
  by_cases al:∃bN f l,y=.my bN f l
  ·obtain⟨bN,f,l,rfl⟩:=al;have au:=asx _ _ _ rfl;simp only[dC] at au
   have aV:∀mem' ju,G6 bN mem' (l.map (a9 tm)) ju=none:=by
    intro mem' ju;unfold G6
    split
    ·rename_i heq;rw[heq] at au;simp[KY] at au
    ·rfl
   simp only[hB,aV]
  ·have H:∀bN f l,y ≠ .my bN f l:=λbN f l h=>al ⟨bN,f,l,h⟩;rcases I with I|⟨i,c,ua,aK,hm,rfl⟩
   ·refine (adX H λb ad=>?_).symm;have F:=en _ I b ad
    have:b.key≠k:=by
     rintro rfl
     cases b<;>simp[rO,nA.key] at F
    simp[ij,a4,this]
   ·have F:=en (.wr k i) (by rw[aK];exact gK)
    by_cases ak:∃n dW z k' cV off,y=.load n dW z/\a9 tm z=.ptr k' cV off
    ·obtain⟨n,dW,z,k',cV,off,rfl,aV⟩:=ak;have G:=F (.rd k' off (off+n)) (by simp[dC,aV,G0]);simp only[hB,ck,aV,ij];rw[asv hm];simp[rO] at G;exact G
    ·refine (adX H λb ad=>?_).symm
     exfalso
     rcases ast ad with ⟨k',rfl⟩|⟨n,dW,z,k',cV,off,af,aS,_⟩|⟨bN,f,l,af⟩
     ·have:=F _ ad;simp[rO] at this
     ·exact ak ⟨n,dW,z,k',cV,off,af,aS⟩
     ·exact H _ _ _ af
def ad2 {tm:Nat->O}{op:jF}(h:sJ op=0):dC tm op=[]/\jX op=false:=by
 cases op<;>simp_all [sJ,jX,dC]
 all_goals (rename_i b _ _ _ _;cases b<;>simp_all [jX,dC])
def ad3 {op:jF}(h:sJ op=1):jX op=false:=by
 cases op<;>simp_all [sJ,jX]
 all_goals (rename_i b _ _ _ _;cases b<;>simp_all [jX])
end Go.Mini
namespace Go.Mini
open Go
variable {T:ba} {j6:Nat->Nat->Bool}
def yF (T:ba)(j6:Nat->Nat->Bool)(i:Nat)(x:cq)(rec:Rec)(st:bc)(z4:Rec)(dQ:bc):Prop :=
 (pd st.tm x.g=some false/\z4=rec/\dQ=⟨put st.tm x.dst .no,st.mem⟩) \/
 (pd st.tm x.g=some true/\∃m e,hB T st.mem st.tm x.op=some (m,e)/\(∀p q,j6 p i=true->rec p=some q->rP q (jX x.op,dC st.tm x.op)=true) /\
  z4=vo rec i (jX x.op,dC st.tm x.op)/\dQ=⟨put st.tm x.dst m,ij st.mem e⟩)
def xd {tm:Nat->O}{dst:Option Nat}{m:O}{s:Nat}(h:dst≠some s):put tm dst m s=tm s:=by
 cases dst with
 |none=>rfl
 |some d =>
  have:s≠d:=λe=>h (by rw[e]);simp[put,this]
def put_comm {tm:Nat->O}{d xb:Option Nat}{m m':O}(h:∀s,d=some s->xb≠some s):put (put tm d m) xb m'=put (put tm xb m') d m:=by
 funext s
 by_cases F:d=some s
 ·rw[xd (h s F)];subst F;simp[put]
 ·rw[xd (dst:=d) F]
  by_cases G:xb=some s
  ·subst G;simp[put]
  ·rw[xd G,xd G,xd F]
def ad4 {tm tm':Nat->O}{g:Option (Nat×Bool)}(h:∀s b,g=some (s,b)->tm s=tm' s):pd tm g=pd tm' g:=by
 cases g with
 |none=>rfl
 |some p =>
  obtain⟨s,b⟩:=p;simp only[pd,h s b rfl]
def ad5 {x y:cq}(h:yv x y=true):(∀d,x.dst=some d->d ∉ BR y)/\(∀d,x.dst=some d->y.dst≠some d)/\(∀d,y.dst=some d->d ∉ BR x):=by
 refine⟨λd Y=>?_,λd Y=>?_,λd Y=>?_⟩<;>simp[yv,Y] at h
 ·exact h.1.1
 ·exact h.1.2
 ·exact h.2
def Qm {x:cq}{s:Nat}(h:s∈sK x.op):s∈BR x:=by simp[BR,h]
def ad6 {x:cq}{s:Nat}{b:Bool}(h:x.g=some (s,b)):s∈BR x:=by simp[BR,h]
def asy (a b:nA):rO a b=rO b a:=by
 have H:∀k k':Nat,(k==k')=(k'==k):=λk k'=>BEq.comm
 cases a<;>cases b<;>first|rfl|(unfold rO;dsimp only;rw[H])
def ad7 {a b:Bool×List nA}(h:rP a b=true):rP b a=true:=by
 unfold rP at *;simp only[sP,Bool.not_eq_true',Bool.or_eq_false_iff,ld] at *;rcases h with ⟨F,G⟩|h
 ·exact .inl ⟨G,F⟩
 ·exact .inr λx Q y al=>by rw[asy];exact h y al x Q
def asz {mem:Mem}{e e':Option (Key×Nat×List O)}(h:∀j g cs l1 cV jo,e=some (j,g,cs)->e'=some (l1,cV,jo)->j≠l1):ij (ij mem e) e'=ij (ij mem e') e:=by
 cases e with
 |none=>rfl
 |some p =>
  cases e' with
  |none=>rfl
  |some p2 =>
   obtain⟨j,g,cs⟩:=p;obtain⟨l1,cV,jo⟩:=p2;have bE:=h _ _ _ _ _ _ rfl rfl
   funext k
   simp only[ij,a4]
   by_cases F:k=l1
   ·by_cases G:k=j
    ·exact absurd (G.symm.trans F) bE
    ·simp[F,G];intro af;exact absurd af.symm bE
   ·simp[F]
def Passes (j6:Nat->Nat->Bool)(i j:Nat)(x y:cq):Prop:=j6 i j=true\/zT (sJ x.op) (sJ y.op)=true
def asA {i j:Nat}{x y:cq}{tm:Nat->O}(h:Passes j6 i j x y)(H:j6 i j=true->rP (jX x.op,dC tm x.op) (jX y.op,dC tm y.op)=true):
  rP (jX x.op,dC tm x.op) (jX y.op,dC tm y.op)=true:=by
 rcases h with h|h
 ·exact H h
 ·unfold zT at h;simp only[sP,eQ,beq_iff_eq] at h;rcases h with (h|h)|⟨F,G⟩
  ·obtain⟨F,G⟩:=ad2 (tm:=tm) h;simp[rP,F]
  ·obtain⟨F,G⟩:=ad2 (tm:=tm) h;simp[rP,F]
  ·have F:=ad3 F;have G:=ad3 G;simp[rP,F,G]
def yF.comm {i j:Nat}{x y:cq}{rec rW Qn:Rec}{st rX Qo:bc}(mI:i≠j)(dN:yv x y=true)(aF:Passes j6 i j x y)(WI:∀a b,j6 a b=j6 b a)(kN:rec i=none)
  (F:yF T j6 i x rec st rW rX) (G:yF T j6 j y rW rX Qn Qo):∃Ln Lo,yF T j6 j y rec st Ln Lo/\yF T j6 i x Ln Lo Qn Qo:=by
 obtain⟨aO,ad,H⟩:=ad5 dN
 -- what one sees of the other's temporary: nothing
 have asB:∀m,pd (put st.tm x.dst m) y.g=pd st.tm y.g:=λm=>ad4 λs b X=>xd λY=>aO s Y (ad6 X);have asC:∀mem m,hB T mem (put st.tm x.dst m) y.op=hB T mem st.tm y.op:=λmem m=>adU λs X=>xd λY=>aO s Y (Qm X);have asD:∀m,dC (put st.tm x.dst m) y.op=dC st.tm y.op:=λm=>adV λs X=>xd λY=>aO s Y (Qm X);have Qp:∀m,pd (put st.tm y.dst m) x.g=pd st.tm x.g:=λm=>ad4 λs b X=>xd λY=>H s Y (ad6 X);have ad8:∀mem m,hB T mem (put st.tm y.dst m) x.op=hB T mem st.tm x.op:=λmem m=>adU λs X=>xd λY=>H s Y (Qm X);have Qq:∀m,dC (put st.tm y.dst m) x.op=dC st.tm x.op:=λm=>adV λs X=>xd λY=>H s Y (Qm X);have l5:∀m m',put (put st.tm x.dst m) y.dst m'=put (put st.tm y.dst m') x.dst m:=λm m'=>put_comm ad;rcases F with ⟨cr,rfl,rfl⟩|⟨cr,dw,az,s1,aG,rfl,rfl⟩<;>rcases G with ⟨b6,rfl,rfl⟩|⟨b6,cv,aD,s2,c2,rfl,rfl⟩<;>simp only[asB,asC,asD] at *
 ·exact⟨_,_,.inl ⟨b6,rfl,rfl⟩,.inl ⟨by simp only[Qp];exact cr,rfl,by simp only[l5]⟩⟩
 ·exact⟨_,_,.inr ⟨b6,cv,aD,s2,c2,rfl,rfl⟩,.inl ⟨by simp only[Qp];exact cr,rfl,by simp only[l5]⟩⟩
 ·exact⟨_,_,.inl ⟨b6,rfl,rfl⟩,.inr ⟨by simp only[Qp];exact cr,dw,az,by simp only[ad8];exact s1,by simp only[Qq];exact aG,by simp only[Qq],by simp only[l5]⟩⟩
 ·have ad9:j6 i j=true->rP (jX x.op,dC st.tm x.op) (jX y.op,dC st.tm y.op)=true:=λh=>c2 i _ h (by simp[vo]);have B4:=asA (tm:=st.tm) aF ad9;have WJ:hB T st.mem st.tm y.op=some (cv,aD):=by rw[<-s2];exact (ad1 s1 B4).symm
  have hq:∀j g cs l1 cV jo,az=some (j,g,cs)->aD=some (l1,cV,jo)->j≠l1:=by
   rintro k g cs k' cV jo rfl rfl rfl;rcases WH s1 with h|⟨hw,cM,b6,oh,h,F⟩
   ·cases h
   ·cases h;rcases WH WJ with h|⟨aea,dj,ga,aMu,h,G⟩
    ·cases h
    ·cases h;unfold rP at B4;simp only[hw,qG,cF,rY,ld] at B4;rcases F with F|⟨i,c,ua,F,_,_⟩<;>rcases G with G|⟨bj,c',aMv,G,_,_⟩
     ·have:=B4 _ F _ G;simp[rO] at this
     ·have:=B4 _ F (.wr k bj) (by rw[G];exact gK);simp[rO] at this
     ·have:=B4 (.wr k i) (by rw[F];exact gK) _ G;simp[rO] at this
     ·have:=B4 (.wr k i) (by rw[F];exact gK) (.wr k bj) (by rw[G];exact gK);simp[rO] at this
  refine⟨_,_,.inr ⟨b6,cv,aD,WJ,λp q Qr aY=>?_,rfl,rfl⟩,.inr ⟨by simp only[Qp];exact cr,dw,az,?_,?_,?_,?_⟩⟩
  ·have bE:p≠i:=λh=>by rw[h,kN] at aY;cases aY
   exact c2 p q Qr (by simp[vo,bE,aY])
  ·simp only[ad8];rw[<-s1];exact ad1 WJ (ad7 B4)
  ·simp only[Qq];intro p q uc aY
   by_cases Qr:p=j
   ·subst Qr;simp only[vo,if_true,cl] at aY;subst aY;exact ad7 (ad9 (by rw[WI];exact uc))
   ·simp only[vo,Qr,if_false] at aY;exact aG p q uc aY
  ·simp only[Qq]
   funext p
   simp only[vo]
   by_cases F:p=i
   ·subst F;simp[mI]
   ·simp[F]
  ·simp only[l5];rw[asz hq]
end Go.Mini
namespace Go.Mini
open Go
variable {T:ba} {j6:Nat->Nat->Bool} {ops:Array Oper} {l:List cq} {K:bc->Prop}
def Ht (T:ba)(j6:Nat->Nat->Bool)(ops:Array Oper)(l:List cq)(K:bc->Prop):Nat->Array Bool->Rec->bc->Prop
 |0,eV,_,st=>Region.ready .any ops eV=[]/\K st
 |fuel+1,eV,rec,st=>(Region.ready .any ops eV=[]->K st) /\
  ∀i∈Region.ready .any ops eV,∃x z4 dQ,l[i]?=some x/\yF T j6 i x rec st z4 dQ/\Ht T j6 ops l K fuel (eV.setIfInBounds i true) z4 dQ
def B5 (ops:Array Oper)(eV:Array Bool):Prop :=
 eV.size=ops.size/\∀(j:Nat) (o:Oper),ops[j]?=some o->eV.getD j false=true->∀e∈o.after,Region.binds .any e=true->eV.getD e.on false=true
def B5.set {eV:Array Bool}{i:Nat}(h:B5 ops eV)(J:i∈Region.ready .any ops eV):B5 ops (eV.setIfInBounds i true):=by
 refine⟨by simp[h.1],λj o ag ak e he ad=>?_⟩
 by_cases h8:j=i
 ·subst h8;obtain⟨_,Lp,bx,en⟩:=mem_ready.1 J;rw[ag] at bx
  cases bx;exact getD_set_true (en e he ad)
 ·rw[getD_set_ne false (Ne.symm h8)] at ak;exact getD_set_true (h.2 j o ag ak e he ad)
def WK (j6:Nat->Nat->Bool)(ops:Array Oper)(l:List cq):Prop :=
 ∀(i j:Nat) (x y:cq),i≠j->l[i]?=some x->l[j]?=some y ->
  (∀eV,B5 ops eV->i∈Region.ready .any ops eV->j∈Region.ready .any ops eV->False)\/(yv x y=true/\Passes j6 i j x y)
def aeb {i k:Nat}{x:cq}{rec z4:Rec}{st dQ:bc}(h:yF T j6 i x rec st z4 dQ)(I:k≠i):z4 k=rec k:=by
 rcases h with ⟨_,rfl,_⟩|⟨_,_,_,_,_,rfl,_⟩
 ·rfl
 ·simp[vo,I]
def asE {eV:Array Bool}{i k:Nat}(h:(eV.setIfInBounds i true).getD k true=false):k≠i/\eV.getD k true=false:=by
 by_cases qH:i=k
 ·subst qH
  exfalso
  by_cases aq:i<eV.size
  ·simp[aq] at h
  ·have:(eV.setIfInBounds i true).size<=i:=by simp;omega
   rw[Array.getD_eq_getD_getElem?,Array.getElem?_eq_none this] at h;simp at h
 ·rw[getD_set_ne true qH] at h;exact⟨λcj=>qH cj.symm,h⟩
def asF (aF:WK j6 ops l)(WI:∀a b,j6 a b=j6 b a){i:Nat}{x:cq}(J:l[i]?=some x):∀(fuel:Nat) (eV:Array Bool) (rec:Rec) (st:bc) (rW:Rec) (rX:bc),
  B5 ops eV->(∀k,eV.getD k true=false->rec k=none)->i∈Region.ready .any ops eV->yF T j6 i x rec st rW rX ->
  Ht T j6 ops l K fuel (eV.setIfInBounds i true) rW rX->Ht T j6 ops l K (fuel+1) eV rec st:=by
 intro fuel
 induction fuel with
 |zero =>
  intro eV rec st rW rX ee B6 aa he hR;refine⟨λh=>(by rw[h] at aa;cases aa),λj ag=>?_⟩
  by_cases h8:j=i
  ·subst h8;exact⟨x,rW,rX,J,he,hR⟩
  ·have:=ready_mono ag h8;rw[hR.1] at this
   cases this
 |succ fuel av =>
  intro eV rec st rW rX ee B6 aa he hR;refine⟨λh=>(by rw[h] at aa;cases aa),λj ag=>?_⟩
  by_cases h8:j=i
  ·subst h8;exact⟨x,rW,rX,J,he,hR⟩
  ·obtain⟨y,Qn,Qo,al,g7,dM⟩:=hR.2 j (ready_mono ag h8);rcases aF i j x y (Ne.symm h8) J al with fp|⟨dN,asG⟩
   ·exact (fp eV ee aa ag).elim
   ·obtain⟨Ln,Lo,F,G⟩:=yF.comm (Ne.symm h8) dN asG WI (B6 i (mem_ready.1 aa).1) he g7;refine⟨y,Ln,Lo,al,F,av _ Ln Lo Qn Qo (ee.set ag) (λk I=>?_) (ready_mono aa (Ne.symm h8)) G ?_⟩
    ·obtain⟨af,aS⟩:=asE I;rw[aeb F af];exact B6 k aS
    ·rw[Array.setIfInBounds_comm _ _ h8];exact dM
def WL:∀(r:List Oper) (acc:List Nat) (k:Nat),k<(D acc)->(qx r acc).getD k 0=acc.getD k 0
 | [],acc,k,_=>rfl
 |o::r,acc,k,I=>by
  simp only[qx];rw[WL r _ k (by simp;omega)];simp only[ei];rw[sM I]
def asH {es:List Edge}{acc:List Nat}{i:Nat}:∀(s:Nat),(es.foldl (λs e=>if Region.binds .any e=true then s ||| (2^e.on ||| acc.getD e.on 0) else s) s).testBit i=true ->
  s.testBit i=true\/∃e∈es,Region.binds .any e=true/\(e.on=i\/(acc.getD e.on 0).testBit i=true):=by
 induction es with
 |nil=>exact λs h => .inl h
 |cons e es av =>
  intro s h;rw[Hm] at h;rcases av _ h with F|⟨e',F,G⟩
  ·split at F
   ·rename_i ad;rw[aec,aec,sP,sP] at F;rcases F with F|F|F
    ·exact .inl F
    ·rw[Nat.testBit_two_pow] at F;exact .inr ⟨e,by simp,ad,.inl (by simpa using F)⟩
    ·exact .inr ⟨e,by simp,ad,.inr F⟩
   ·exact .inl F
  ·exact .inr ⟨e',by simp[F],G⟩
def aed:∀(r:List Oper) (acc:List Nat) (t:Nat) (o:Oper),r[t]?=some o->∀i,((qx r acc).getD (D acc+t) 0).testBit i=true ->
  ∃e∈o.after.toList,Region.binds .any e=true/\(e.on=i\/(e.on<D acc+t/\((qx r acc).getD e.on 0).testBit i=true))
 | [],_,_,_,h,_,_=>by simp at h
 |Lp::r,acc,0,o,h,i,ad=>by
  simp at h;subst h;simp only[qx,nE] at ad ⊢;rw[WL r _ _ (by simp)] at ad;simp only[ei] at ad;rw[rR (bM _)] at ad;simp only[lf,xe,Hu] at ad;rcases asH (acc:=acc) 0 (by simpa only [ei] using ad) with F|⟨e,F,G,af⟩
  ·simp at F
  ·refine⟨e,F,G,af.imp id λh=>?_⟩
   have aq:e.on<D acc:=by
    rcases iD e.on (D acc) with cj|cj
    ·exact cj
    ·rw[ei,mB cj] at h;simp at h
   refine⟨aq,?_⟩;rw[WL r _ _ (by simp;omega),ei,sM aq,<-ei];exact h
 |Lp::r,acc,t+1,o,h,i,ad=>by
  have cj:r[t]?=some o:=by simpa using h
  simp only[qx] at ad ⊢
  have:=aed r (acc++[Lp.after.toList.foldl (λs e=>if Region.binds .any e=true then s ||| (2^e.on ||| acc.getD e.on 0) else s) 0]) t o cj i (by
   rw[fO,List.length_singleton,qA,zO 1 t];exact ad)
  obtain⟨e,F,G,af⟩:=this;refine⟨e,F,G,af.imp id λh=>⟨by have:=h.1;simp at this;omega,h.2⟩⟩
def asI {eV:Array Bool}(ee:B5 ops eV):∀(j:Nat) (o:Oper),ops[j]?=some o->(∀e∈o.after,Region.binds .any e=true->eV.getD e.on false=true) ->
  ∀i,((qx ops.toList []).getD j 0).testBit i=true->eV.getD i false=true:=by
 intro j
 induction j using Lq with
 |_ j av =>
  intro o bx en i J;obtain⟨e,he,ad,h⟩:=aed ops.toList [] j o (by simpa using bx) i (by simpa using J);have ak:=en e (by simpa using he) ad;rcases h with rfl|⟨aq,asJ⟩
  ·exact ak
  ·have e6:e.on<ops.size:=by
    rw[<-ee.1];rcases iD e.on eV.size with cj|cj
    ·exact cj
    ·simp[Array.getElem?_eq_none cj] at ak
   have aee:ops[e.on]?=some ops[e.on]:=Array.getElem?_eq_getElem e6;exact av e.on (by simpa using aq) _ aee (ee.2 e.on _ aee ak) i asJ
def aef:∀(cs pre:List cq) (as:List Nat),Hb pre cs as=true->∀(t:Nat) (y:cq),cs[t]?=some y->∀(i:Nat) (x:cq),(pre++cs)[i]?=some x->i<D pre+t ->
  (as.getD t 0).testBit i=true\/yv x y=true
 | [],_,_,_,_,_,h,_,_,_,_=>by simp at h
 |_::_,_,[],h,_,_,_,_,_,_,_=>by simp[Hb] at h
 |c::cs,pre,a::as,h,0,y,al,i,x,Q,aq=>by
  simp only[Hb,eQ,ld] at h;simp at al;subst al;have J:i<D pre:=by simpa using aq
  rw[sM J] at Q;have:=h.1 (x,i) (by rw[aeg];exact Q)
  simpa using this
 |c::cs,pre,a::as,h,t+1,y,al,i,x,Q,aq=>by
  simp only[Hb,eQ] at h;have:=aef cs (pre++[c]) as h.2 t y (by simpa using al) i x (by simpa using Q) (by simp;omega)
  simpa using this
def aeh:∀(cs pre:List cq) (as:List Nat) (t:Nat) (y:cq),cs[t]?=some y->∀(i:Nat) (x:cq),(pre++cs)[i]?=some x->i<D pre+t ->
  (as.getD t 0).testBit i=true\/zT (sJ x.op) (sJ y.op)=true\/i∈(zU pre cs as).getD t []
 | [],_,_,_,_,h,_,_,_,_=>by simp at h
 |c::cs,pre,as,0,y,al,i,x,Q,aq=>by
  simp at al;subst al;have J:i<D pre:=by simpa using aq
  rw[sM J] at Q;have fL:(x,i)∈pre.zipIdx:=by rw[aeg];exact Q
  by_cases F:(as.getD 0 0).testBit i=true
  ·exact .inl F
  ·by_cases G:zT (sJ x.op) (sJ c.op)=true
   ·exact .inr (.inl G)
   ·refine .inr (.inr ?_);simp only[zU,ei,xe,Hu];refine List.mem_map.2 ⟨(x,i),List.mem_filter.2 ⟨fL,?_⟩,rfl⟩;have af:as.headD 0=as.getD 0 0:=by cases as<;>rfl
    simp only[af];rw[ei] at F;simp[F,G]
 |c::cs,pre,as,t+1,y,al,i,x,Q,aq=>by
  have:=aeh cs (pre++[c]) as.tail t y (by simpa using al) i x (by simpa using Q) (by simp;omega);have af:as.tail.getD t 0=as.getD (t+1) 0:=by cases as<;>simp
  rw[af] at this
  simpa [zU] using this
def xf (c:List (List Nat))(i j:Nat):Bool:=if i<j then (c.getD j []).contains i else if j<i then (c.getD i []).contains j else false
def aei (c:List (List Nat))(i j:Nat):xf c i j=xf c j i:=by
 unfold xf
 by_cases F:i<j
 ·simp[F,aej F]
 ·by_cases G:j<i
  ·simp[G,aej G]
  ·simp[F,G]
def asK {x y:cq}(h:yv x y=true):yv y x=true:=by
 obtain⟨F,G,af⟩:=ad5 h;unfold yv;rw[eQ]
 constructor
 ·cases al:y.dst with
  |none=>rfl
  |some d =>
   have a:=af d al;have b:x.dst≠some d:=λQ=>G d Q al;simp[a,b]
 ·cases Q:x.dst with
  |none=>rfl
  |some d =>
   have a:=F d Q;simp[a]
def asL (a b:Nat):zT a b=zT b a:=by
 unfold zT
 cases (a==0)<;>cases (b==0)<;>cases (a==1)<;>cases (b==1)<;>rfl
def asM (Y:Hd ops l=true):WK (xf (zU [] l (qx ops.toList []))) ops l:=by
 have key:∀(i j:Nat) (x y:cq),i<j->l[i]?=some x->l[j]?=some y ->
   (∀eV,B5 ops eV->i∈Region.ready .any ops eV->j∈Region.ready .any ops eV->False) \/
   (yv x y=true/\(xf (zU [] l (qx ops.toList [])) i j=true\/zT (sJ x.op) (sJ y.op)=true)):=by
  intro i j x y mI Q al;unfold Hd at Y;rw[eQ] at Y
  by_cases ad:((qx ops.toList []).getD j 0).testBit i=true
  ·refine .inl λeV ee J ag=>?_;obtain⟨_,o,bx,en⟩:=mem_ready.1 ag;have F:=asI ee j o bx en i ad;have au:=(mem_ready.1 J).1;rcases iD i eV.size with cj|cj
   ·simp[cj] at au F;rw[au] at F;cases F
   ·simp[Array.getElem?_eq_none cj] at F
  ·refine .inr ⟨?_,?_⟩
   ·rcases aef l [] _ Y.2 j y al i x (by simpa using Q) (by simpa using mI) with h|h
    ·exact absurd h ad
    ·exact h
   ·rcases aeh l [] (qx ops.toList []) j y al i x (by simpa using Q) (by simpa using mI) with h|h|h
    ·exact absurd h ad
    ·exact .inr h
    ·exact .inl (by unfold xf;rw[ab mI];exact aek.2 h)
 intro i j x y mI Q al;rcases Nat.lt_or_gt_of_ne mI with h|h
 ·exact key i j x y h Q al
 ·rcases key j i y x h al Q with F|⟨F,G⟩
  ·exact .inl λeV ee J ag=>F eV ee ag J
  ·refine .inr ⟨asK F,?_⟩;rcases G with G|G
   ·exact .inl (by rw[aei];exact G)
   ·exact .inr (by rw[asL];exact G)
end Go.Mini
namespace Go.Mini
open Go
variable {P:Program} {T:ba} {A:Nat->Prop} {dG w:World} {hp B:e7} {mem:Mem} {n kb:Nat} {own:List Nat} {ops:Array Oper} {l:List cq} {K:bc->Prop} {aN:Exit->Act->World->Prop}
def ael:∀(r:List Oper) (m:Nat),Hc m r=true->∀(t:Nat) (o:Oper),r[t]?=some o->∀e∈o.after,Region.binds .any e=true->e.on<m+t
 | [],_,_,_,_,h,_,_,_=>by simp at h
 |Lp::r,m,h,0,o,bx,e,he,ad=>by
  simp only[Hc,eQ] at h;simp at bx;subst bx;have:=(Array.all_eq_true_iff_forall_mem.1 h.1) e he
  simpa [ad] using this
 |Lp::r,m,h,t+1,o,bx,e,he,ad=>by
  simp only[Hc,eQ] at h;have:=ael r (m+1) h.2 t o (by simpa using bx) e he ad;omega
def aem {c:List (List Nat)}(aF:WK (xf c) ops l)(ak:(D l)=ops.size)(he:Hc 0 ops.toList=true):∀(r:List cq) (m:Nat) (rec:Rec) (st:bc) (eV:Array Bool),l.drop m=r->m+D r=(D l) ->
  eV.size=ops.size->(∀i,i<ops.size->eV.getD i true=decide (i<m))->(∀k,m<=k->rec k=none)->w4 T K m r (c.drop m) rec st->Ht T (xf c) ops l K (D r) eV rec st
 | [],m,rec,st,eV,aa,hm,X,z5,B6,h=>by
  refine⟨List.eq_nil_iff_forall_not_mem.2 λi J=>?_,h⟩;obtain⟨F,o,bx,_⟩:=mem_ready.1 J;have aq:i<ops.size:=(Array.getElem?_eq_some_iff.1 bx).1;rw[z5 i aq] at F;simp at F hm;omega
 |x::r,m,rec,st,eV,aa,hm,X,z5,B6,h=>by
  have aq:m<ops.size:=by simp at hm;omega
  have bx:ops[m]?=some ops[m]:=Array.getElem?_eq_getElem aq
  have Q:l[m]?=some x:=by
   have:(l.drop m)[0]?=some x:=by rw[aa];rfl
   simpa using this
  have jK:=λ(j:Nat) (o:Oper) (ag:ops[j]?=some o)=>ael ops.toList 0 he j o (by simpa using ag)
  have cn:∀i,i<m->eV.getD i false=true:=λi J=>by
   have F:=z5 i (by omega);rw[h2 J] at F;have G:i<eV.size:=by omega
   simpa [G] using F
  have ee:B5 ops eV:=⟨X,λj o ag j1 e p0 ad=>by
   have F:=jK j o ag e p0 ad;have pV:j<ops.size:=(Array.getElem?_eq_some_iff.1 ag).1
   have G:j<m:=by
    have:=z5 j pV;have af:j<eV.size:=by omega
    simp[af] at j1 this;rw[j1] at this
    simpa using this.symm
   exact cn _ (by omega)⟩
  have asN:m∈Region.ready .any ops eV:=mem_ready.2 ⟨by rw[z5 m aq];simp,_,bx,λe p0 ad=>cn _ (by have:=jK m _ bx e p0 ad;omega)⟩
  have asO:∀k,eV.getD k true=false->rec k=none:=λk I=>B6 k (by
   rcases iD k ops.size with cj|cj
   ·rw[z5 k cj] at I
    simpa using I
   ·omega)
  have next:∀rW rX,yF T (xf c) m x rec st rW rX->w4 T K (m+1) r (c.drop m).tail rW rX->Ht T (xf c) ops l K (D r+1) eV rec st:=by
   intro rW rX hex I;refine asF aF (aei c) Q _ eV rec st rW rX ee asO asN hex (aem aF ak he r (m+1) rW rX _ ?_ (by simp at hm;omega) (by simpa using X) (λi J=>?_) (λk I=>?_) ?_)
   ·rw[<-Hv,aa]
    rfl
   ·by_cases him:m=i
    ·subst him;have:m<eV.size:=by omega
     simp[this]
    ·rw[getD_set_ne true him,z5 i J]
     congr 1
     simp;omega
   ·rw[aeb hex (by omega)];exact B6 k (by omega)
   ·rw[List.tail_drop] at I;exact I
  simp only[w4] at h
  split at h
  ·cases h
  ·rename_i g a8
   split at h
   ·rename_i kx;subst kx
    split at h
    ·rename_i jm e X;refine next _ _ (.inr ⟨a8,jm,e,X,λp q mJ aY=>?_,rfl,rfl⟩) h.2
     have nD:p<m:=by
      rcases iD p m with cj|cj
      ·exact cj
      ·rw[B6 p cj] at aY;cases aY
     have WM:=h.1;unfold G7 at WM;rw[ld] at WM
     have fL:p∈(c.drop m).headD []:=by
      unfold xf at mJ;rw[ab nD] at mJ
      have:(c.drop m).headD []=c.getD m []:=by
       rw[List.headD_eq_head?_getD,List.head?_drop,ei]
      rw[this];exact aek.1 mJ
     have:=WM p fL;rw[aY] at this;exact this
    ·cases h
   ·rename_i asP;have asQ:g=false:=by simpa using asP
    subst asQ;exact next _ _ (.inl ⟨a8,rfl,rfl⟩) h
def Lr (h:fs A w B mem):fs (b4 A B) w (λ_=>none) emp :=
 ⟨λ_ _=>rfl,λ_ _ _ _ _ h=>(by cases h),λb _ ⟨_,_,h,_⟩=>(by cases h),λb ad=>ad.elim (λcj=>h.w0 cj) (h.lt b),λ_ _ _ h=>(by cases h)⟩
def z6 (b:Nat):b4 (b4 A B) (λ_=>none) b↔b4 A B b :=
 ⟨λh=>h.elim (fun⟨_,_,h,_⟩=>by cases h) id,.inr⟩
def aen {m:O}{v:Value}(h:bp w (b4 A B) B m v):bp w (b4 (b4 A B) λ_=>none) (λ_=>none) (qw m) v:=by
 cases h with
 |M h=>exact .M (h.less λb ad=>(z6 b).1 ad)
 |nil=>exact .nil
 |fx ak Y =>
  rename_i f eM vs
  cases eM with
  |nil=>exact .fx ak λi d v h=>by simp at h
  |cons c r=>exact .undef
 |agg ak Y =>
  rename_i cs vs;simp only[qw]
  cases H:cs.mapM vl with
  |none=>exact .undef
  |some ds =>
   obtain⟨F,G⟩:=oM H;refine .M (.agg (ak.trans F.symm) λi d v J aA=>?_);have aq:i<D cs:=by have:=(dK.1 J).1;omega
   have kM:=bn aq;exact (adt (G i _ d kM J) (Y i _ v kM aA)).less λb ad=>(z6 b).1 ad
 |_=>exact .undef
def shut_list {ms:List O}{vs:List Value}(h:dg w (b4 A B) B ms vs):dg w (b4 (b4 A B) λ_=>none) (λ_=>none) (ms.map qw) vs:=by
 refine⟨by simpa using h.1,λi m v hm aA=>?_⟩
 rw[bo,dS] at hm;obtain⟨m',oi,rfl⟩:=hm;exact aen (h.2 i m' v oi aA)
def B3.less {w aT:World}{a2 mv:Nat->Prop}{sz:Nat}{es:List (List Data)}{v:Value}(ak:∀b,mv b->a2 b)(h:B3 w aT a2 sz es v):B3 w aT mv sz es v:=by
 obtain⟨F,a,cap,G,af,aS,bt⟩:=h;refine⟨F,a,cap,G,af,aS,bt.imp id ?_⟩;rintro⟨b,vs,T,b2,cb,cN,jL,g3⟩;exact⟨b,vs,T,b2,cb,cN,jL,λi d Y=>let ⟨u,hu,tY⟩:=g3 i d Y;⟨u,hu,tY.less λfk kK=>kK.imp (ak fk) id⟩⟩
def Ej {o:Oper}{c:Call}{f:FuncId}{a:Act}(bx:o.op=.call c)(mG:c.callee=.value (.func f))(mF:Real P f):(execOp a.eval o).run P w=.ok (.enter f (c.args.toList.map a.eval).toArray) w:=by
 obtain⟨dst,op,type,pos,after,guard⟩:=o;simp only at bx;subst bx;obtain⟨callee,z3,Qj⟩:=c;simp only at mG;subst mG;simp only[execOp,resolve,Deferred.ofValue,Act.eval,invoke,Sem.run_bind,Sem.run_pure,Result.andThen_ok,Qi mF];rw[B0 z3];simp
def aeo {a2:Nat->Prop}{b off c sz len:Nat}{vs:Array Value}{T:TypeId}{ds:List Data}(aX:w.heap[b]?=some (.cells vs T (0,0)))(fN:¬ a2 b)(ak:(D ds)=len*sz)(WN:len<=c)(hm:len<=maxLen)(K9:off+len*sz<=vs.size)
  (Y:∀(i:Nat) (d:Data) (v:Value),ds[i]?=some d->vs[off+i]?=some v->Den w a2 d v):Den w a2 (.ay (chunk sz len ds)) (.slice (some ⟨b,off,none⟩) len c):=by
 have ee:=Qa sz len ds
 have h:=Den.ay (w:=w) (a2:=a2) (es:=chunk sz len ds) (b:=b) (off:=off) (c:=c) (sz:=sz) (λi=>vs.getD (off+i) undef) (by rw[ee];exact WN) (by rw[ee];exact hm)
  (Array.getElem?_eq_some_iff.1 aX).1 fN (Qb sz len ds ak)
  (λi J=>by
   rw[ee] at J;rw[cell_of_row w b (off+i) vs T (0,0) aX];have:off+i<vs.size:=by omega
   simp[this])
  (λi d k8=>by
   rw[Qc sz len ds ak] at k8;have aq:i<D ds:=(dK.1 k8).1;have lg:off+i<vs.size:=by omega
   have:vs.getD (off+i) undef=vs[off+i]:=by simp[lg]
   simp only[this];exact Y i d _ k8 (Array.getElem?_eq_getElem lg))
 rw[ee] at h;exact h
def asR {mem:Mem}{k g sz off len:Nat}{cs:List O}{d:Data}(hm:mem k=some (g,cs))(h:KZ sz off len cs=some d):b5 1 mem (.ref k g sz off len)=some d:=by
 have aV:∀(m:O) (d:Data),vl m=some d->b5 0 mem m=some d:=λm d h=>by
  unfold vl at h
  split at h<;>simp_all [b5]
 have ak:∀(l:List O) (ds:List Data),l.mapM vl=some ds->l.mapM (b5 0 mem)=some ds:=by
  intro l
  induction l with
  |nil=>intro ds h;simpa using h
  |cons m l av =>
   intro ds h;simp only[kr,hi,ho,ek,cl] at h ⊢;obtain⟨x,Q,Ek,gp,rfl⟩:=h;exact⟨x,aV m x Q,Ek,av Ek gp,rfl⟩
 unfold KZ at h
 split at h
 ·rename_i part aF;simp only[V9,dS] at h;obtain⟨ds,gp,rfl⟩:=h;simp only[b5,hm,if_true,aF];rw[ak _ _ gp]
  rfl
 ·cases h
def Ls {k:Key}{g sz off len:Nat}{cs:List O}{d:Data}{v:Value}(bR:fs A w B mem)(I:mem k=some (g,cs))(Y:b5 1 mem (.ref k g sz off len)=some d)(aA:bp w (b4 A B) B (.ref k g sz off len) v):
  Den w (b4 A (gD B k ⟨bQ mem k,none,0⟩)) d v:=by
 have fN:∀b,b4 A (gD B k ⟨bQ mem k,none,0⟩) b->b4 A B b:=λb h=>h.imp (fun⟨j,e,ag,Q⟩=>by
  by_cases dL:j=k
  ·subst dL;rw[hn] at ag;cases ag;cases Q
  ·rw[hh B _ dL] at ag;exact⟨j,e,ag,Q⟩) id
 simp only[b5,I,if_true] at Y
 split at Y
 ·rename_i part WO;simp only[dS] at Y;obtain⟨ds,gp,rfl⟩:=Y;obtain⟨ee,rfl,nD⟩:=Hh WO;obtain⟨F,G⟩:=oM gp
  cases aA with
  |ref he hgle aa =>
   obtain⟨e,gA,ca,aH,ad⟩:=bR.at_ I;rw[gA] at he;obtain rfl:=mD he;obtain⟨a,cap,rfl,af,aS,bt⟩:=aa;rcases bt with bt|⟨b,rfl,b2⟩
   ·have:len=0:=by omega
    subst this;simp only[chunk];exact .l0
   ·obtain⟨cb,cN⟩:=b2 ca.symm;obtain⟨vs,T,aX,aV,hle,b0⟩:=ad b cb
    have asS:¬ b4 A (gD B k ⟨bQ mem k,none,0⟩) b:=by
     rintro (⟨j,aD,ag,Q⟩|aO)
     ·by_cases dL:j=k
      ·subst dL;rw[hn] at ag;cases ag;cases Q
      ·rw[hh B _ dL] at ag;exact dL (bR.inj j k aD _ b ag gA Q cb)
     ·exact bR.sep b aO ⟨k,_,gA,cb⟩
    refine aeo aX asS (by omega) af (by omega) (by omega) λi x u Q hu=>?_;have aq:i<D ds:=(dK.1 Q).1;have lg:off+i<D cs:=by omega
    have kM:((cs.drop off).take (len*sz))[i]?=some cs[off+i]:=by
     rw[rZ (by omega),lE,bn lg]
    have vB:=G i _ x kM Q
    have nb:bp w (b4 A B) B cs[off+i] u:=b0.2 (off+i) _ u (bn lg) (by
     rw[rZ lg,Array.getElem?_toList];exact hu)
    generalize cs[off+i]=m at *
    cases m<;>simp only[b5,cl,reduceCtorEq] at vB
    ·subst vB
     cases nb with
     |M h=>exact h.less fN
    ·subst vB
     cases nb;exact .l0
 ·cases Y
def asT {mv:Nat->Prop}{br:e7}(fN:∀b,mv b->b4 A B b){m:O}{v:Value}(h:bp w (b4 A B) B m v):bp w mv br (qw m) v:=by
 have au:=aen h;have asU:∀b,mv b->b4 (b4 A B) (λ_=>none) b:=λb ad=>(z6 b).2 (fN b ad)
 have go:∀{m:O},(∃d,m=.M d)\/m=.nil\/(∃f,m=.fx f [])\/m=.undef->bp w (b4 (b4 A B) λ_=>none) (λ_=>none) m v->bp w mv br m v:=by
  intro m hm h;rcases hm with ⟨d,rfl⟩|rfl|⟨f,rfl⟩|rfl
  ·cases h with
   |M h=>exact .M (h.less asU)
  ·cases h;exact .nil
  ·cases h with
   |fx ak Y=>exact .fx ak λi d v h=>by simp at h
  ·exact .undef
 refine go ?_ au
 cases m<;>simp only[qw]
 case M d=>simp
 case nil=>simp
 case fx f eM=>cases eM<;>simp
 case agg cs=>split<;>simp
 all_goals simp
def asV {k:Key}{g:Nat}{cs:List O}(h:fs A w B mem)(I:mem k=some (g,cs))(Y:oK cs=true):
  fs (λb=>A b\/∃j e,j≠k/\B j=some e/\e.dr=some b) w (λj=>if j=k then B k else none) (a4 emp k g cs):=by
 have fN:∀b,b4 (λb=>A b\/∃j e,j≠k/\B j=some e/\e.dr=some b) (λj=>if j=k then B k else none) b->b4 A B b:=λb ad=>by
  rcases ad with ⟨j,e,ag,Q⟩|aO|⟨j,e,_,ag,Q⟩
  ·by_cases dL:j=k
   ·subst dL;simp only[if_true] at ag;exact .inl ⟨_,e,ag,Q⟩
   ·simp only[dL,if_false] at ag;cases ag
  ·exact .inr aO
  ·exact .inl ⟨j,e,ag,Q⟩
 refine⟨λj ag=>?_,λj l1 e e' b F G _ _=>?_,λb aO bx=>?_,λb ad=>?_,λj cV jo ag=>?_⟩
 ·by_cases dL:j=k
  ·subst dL;simp[a4] at ag
  ·simp only[dL,if_false]
 ·by_cases ag:j=k<;>by_cases pV:l1=k
  ·rw[ag,pV]
  ·simp only[pV,if_false] at G;cases G
  ·simp only[ag,if_false] at F;cases F
  ·simp only[ag,if_false] at F;cases F
 ·obtain⟨j,e,ag,Q⟩:=bx
  by_cases dL:j=k
  ·subst dL;simp only[if_true] at ag;rcases aO with aO|⟨l1,e',bE,pV,vB⟩
   ·exact h.sep b aO ⟨_,e,ag,Q⟩
   ·exact bE (h.inj _ _ e' e b pV ag vB Q)
  ·simp only[dL,if_false] at ag;cases ag
 ·rcases ad with ad|⟨j,e,_,ag,Q⟩
  ·exact h.lt b ad
  ·exact h.w0 ⟨j,e,ag,Q⟩
 ·by_cases dL:j=k
  ·subst dL;simp only[a4,if_true,cl,e2] at ag;obtain⟨rfl,rfl⟩:=ag;obtain⟨e,he,a8,aH,ad⟩:=h.dr _ _ _ I;refine⟨e,by simp only[if_true];exact he,a8,aH,λb jZ=>?_⟩
   obtain⟨vs,T,aX,aV,hle,aa⟩:=ad b jZ;refine⟨vs,T,aX,aV,hle,λi m J=>?_⟩;obtain⟨v,aA,vy⟩:=aa i m J;refine⟨v,aA,?_⟩;unfold oK at Y;rw[ld] at Y;have hm:=Y m (dZ J);rw[adF] at hm;obtain⟨d,hm⟩:=hm;unfold vl at hm
   split at hm<;>cases hm
   ·cases vy with
    |M vy=>exact .M (vy.less fN)
   ·cases vy;exact .nil
  ·simp only[a4,dL,if_false,emp] at ag;cases ag
def asW {aT:World}{k:Key}{vk:Nat->Prop}(h:fs A w B mem)(asX:∀b,vk b->∃e,B k=some e/\e.dr=some b)(f:Fr vk w aT):eE A w B aT (gD B k ⟨bQ mem k,none,0⟩) (a4 mem k (bQ mem k) []) :=
 eE.change (e':=⟨bQ mem k,none,0⟩) h ⟨f.os,f.tape,f.output,f.size,λb ad bx=>f.block b ad λQ=>bx (asX b Q)⟩ (λe he => .inr (DY h k e he)) (λb ad=>by simp at ad) (λ_=>rfl) (λb ad=>by simp at ad)
def asY (cQ:qF P T){a:Act}{st:bc}{o:Oper}{i:cq}{m:O}{e:Option (Key×Nat×List O)}(h:hK n A dG hp a st w B)(J:WB P n kb own ops o i)
  (X:hB T st.mem st.tm i.op=some (m,e)):o.wp P a w (λj2 aT=>∃br,hK n A dG hp j2 ⟨put st.tm i.dst m,ij st.mem e⟩ aT br) aN:=by
 have nc:=J.op
 have plain:ck st.mem st.tm i.op=some (m,e)->o.wp P a w (λj2 aT=>∃br,hK n A dG hp j2 ⟨put st.tm i.dst m,ij st.mem e⟩ aT br) aN:=by
  intro X
  have a3:jY P kb own o.dst o.type o.op=some i.op:=getD_some nc (by
   intro ad;rw[ad] at X
   cases X)
  obtain⟨Hs,v,aT,br,nf,gJ,c9,aA⟩:=adL h.ok.dX h.tZ a3 X;unfold Oper.wp;rw[nf,J.dst];have Lm:=h.put c9 aA J.lt;rcases gJ with rfl|⟨rfl,rfl⟩
  ·exact⟨br,Lm⟩
  ·exact⟨br,Lm⟩
 cases ud:i.op with
 |call f args =>
  have a3:jY P kb own o.dst o.type o.op=some i.op:=getD_some nc (by rw[ud];simp);rw[ud] at a3 X;obtain⟨c,H,mG,og⟩:=adQ a3;have b0:=shut_list (yD h.tZ og);rw[mK] at b0;simp only[hB] at X
  split at X
  ·rename_i r im
   cases X;obtain⟨mF,jK⟩:=cQ f _ _ _ im;have hE:=jK (b4 A B) w (λ_=>none) _ (Lr h.ok.dX) b0;unfold Oper.wp;rw[Ej H mG mF,J.dst];refine Calls.mono hE λe aT he=>?_;obtain⟨v,rfl,bw,Y⟩:=he;exact⟨B,h.put (.still h.ok.dX bw) (.M (Y.less λb ad=>(z6 b).2 ad)) J.lt⟩
  ·rename_i sz es im
   cases X;obtain⟨mF,jK⟩:=cQ f _ _ _ im;have hE:=jK (b4 A B) w (λ_=>none) _ (Lr h.ok.dX) b0;unfold Oper.wp;rw[Ej H mG mF,J.dst];refine Calls.mono hE λe aT he=>?_;obtain⟨v,rfl,bw,Y⟩:=he;exact⟨B,h.put (.still h.ok.dX bw) (.M ((Y.less λb ad=>(z6 b).2 ad).den λb ad=>ad.elim (λcj=>h.ok.dX.w0 cj) (h.ok.dX.lt b))) J.lt⟩
  ·cases X
 |m8 k sz f args =>
  have a3:jY P kb own o.dst o.type o.op=some i.op:=getD_some nc (by rw[ud];simp);rw[ud] at a3 X;obtain⟨c,H,mG,og⟩:=adR a3;have b0:=shut_list (yD h.tZ og);rw[mK] at b0;simp only[hB] at X
  split at X
  ·rename_i et es im
   split at X
   ·rename_i e6;subst e6
    cases X;obtain⟨mF,jK⟩:=cQ f _ _ _ im;have hE:=jK (b4 A B) w (λ_=>none) _ (Lr h.ok.dX) b0;unfold Oper.wp;rw[Ej H mG mF,J.dst];refine Calls.mono hE λe aT he=>?_;obtain⟨v,rfl,bw,Y⟩:=he;obtain⟨br,c9,aA⟩:=adP k h.ok.dX bw (Y.less λb ad=>(z6 b).2 ad);exact⟨br,h.put c9 aA J.lt⟩
   ·cases X
  ·cases X
 |my bN f args =>
  have a3:jY P kb own o.dst o.type o.op=some i.op:=getD_some nc (by rw[ud];simp);rw[ud] at a3 X;obtain⟨c,H,mG,og⟩:=ar8 a3;have b0:=yD h.tZ og;simp only[hB] at X;obtain⟨r,k,g,aMw,cc,cs,im,hm,rfl,rfl,aK⟩:=ad0 X;obtain⟨mF,jK⟩:=cQ f _ _ _ im;have hE:=jK A w B _ h.ok.dX b0;unfold Oper.wp;rw[Ej H mG mF,J.dst];refine Calls.mono hE λe aT he=>?_;obtain⟨v,br,rfl,c9,aA⟩:=he;refine⟨br,?_⟩;have qB:rN st.mem k=cs:=by simp only[rN,hm]
  rw[qB] at c9;exact h.put c9 aA J.lt
 |tP j f args =>
  have a3:jY P kb own o.dst o.type o.op=some i.op:=getD_some nc (by rw[ud];simp);rw[ud] at a3 X;obtain⟨c,H,mG,og⟩:=ar9 a3;have B7:=yD h.tZ og;simp only[hB] at X;obtain⟨k,g,sz,off,len,cs,d,r,Q,hm,Y,aa,rfl,rfl⟩:=adY X;have ok:=eE.yx h.ok.dX k
  have aq:j<(c.args.toList.map a.eval).length:=by
   rw[B7.1];exact (dK.1 Q).1
  have La:=bn aq;have tY:=Ls h.ok.dX hm (asR hm Y) (B7.2 j _ _ Q La);have Qs:=shut_list (B7.rK ok.m9);rw[mK] at Qs
  have Qt:dg w (b4 (b4 A (gD B k ⟨bQ st.mem k,none,0⟩)) λ_=>none) (λ_=>none) ((args.map (qw ∘ a9 st.tm)).set j (.M d)) (c.args.toList.map a.eval):=by
   refine⟨by rw[Qs.1,hL],λi m v F G=>?_⟩
   by_cases h8:j=i
   ·subst h8;rw[La] at G
    cases G;have j1:j<(args.map (qw ∘ a9 st.tm)).length:=by rw[<-Qs.1];exact aq
    rw[Hw j1] at F
    cases F;exact .M (tY.less λb ad=>(z6 b).1 ad)
   ·rw[WQ h8] at F;exact Qs.2 i m v F G
  unfold PW at aa
  split at aa
  ·rename_i Hf im
   cases aa;obtain⟨mF,jK⟩:=cQ f _ _ _ im;have hE:=jK (b4 A (gD B k ⟨bQ st.mem k,none,0⟩)) w (λ_=>none) _ (Lr ok.dX) Qt;unfold Oper.wp;rw[Ej H mG mF,J.dst];refine Calls.mono hE λe aT he=>?_;obtain⟨v,rfl,bw,nB⟩:=he;exact⟨_,h.put (ok.trans (.still ok.dX bw)) (.M (nB.less λb ad=>(z6 b).2 ad)) J.lt⟩
  ·rename_i et es im
   cases aa;obtain⟨mF,jK⟩:=cQ f _ _ _ im;have hE:=jK (b4 A (gD B k ⟨bQ st.mem k,none,0⟩)) w (λ_=>none) _ (Lr ok.dX) Qt;unfold Oper.wp;rw[Ej H mG mF,J.dst];refine Calls.mono hE λe aT he=>?_;obtain⟨v,rfl,bw,nB⟩:=he;exact⟨_,h.put (ok.trans (.still ok.dX bw)) (.M ((nB.less λb ad=>(z6 b).2 ad).den λb ad=>ad.elim (λcj=>ok.dX.w0 cj) (ok.dX.lt b))) J.lt⟩
  ·cases aa
 |sG j f args =>
  have a3:jY P kb own o.dst o.type o.op=some i.op:=getD_some nc (by rw[ud];simp);rw[ud] at a3 X;obtain⟨c,H,mG,og⟩:=asa a3;have B7:=yD h.tZ og;simp only[hB] at X;obtain⟨k,g,sz,off,len,cV,cs,r,Q,hm,Y,im,rfl,rfl⟩:=adZ X;have bR:=asV h.ok.dX hm Y
  have asZ:∀b,b4 (λb=>A b\/∃j e,j≠k/\B j=some e/\e.dr=some b) (λj=>if j=k then B k else none) b->b4 A B b:=λb ad=>by
   rcases ad with ⟨yG,e,ag,ue⟩|aO|⟨yG,e,_,ag,ue⟩
   ·by_cases dL:yG=k
    ·simp only[ab dL] at ag;exact .inl ⟨k,e,ag,ue⟩
    ·simp only[ae dL] at ag;cases ag
   ·exact .inr aO
   ·exact .inl ⟨yG,e,ag,ue⟩
  have aq:j<(c.args.toList.map a.eval).length:=by
   rw[B7.1];exact (dK.1 Q).1
  have La:=bn aq
  have Qt:dg w (b4 (λb=>A b\/∃j e,j≠k/\B j=some e/\e.dr=some b) (λj=>if j=k then B k else none)) (λj=>if j=k then B k else none) ((args.map λx=>qw (a9 st.tm x)).set j (.ref k g sz off len)) (c.args.toList.map a.eval):=by
   refine⟨by rw[B7.1,hL,ar,ar],λi m v F G=>?_⟩
   by_cases h8:j=i
   ·subst h8
    have j1:j<(args.map λx=>qw (a9 st.tm x)).length:=by
     have:=(dK.1 Q).1
     simpa using this
    rw[Hw j1] at F
    cases F;have aA:=B7.2 j _ v Q G
    cases aA with
    |ref he a8 aa=>exact .ref (by simp only[if_true];exact he) a8 aa
   ·rw[WQ h8,bo,dS] at F;obtain⟨y,al,rfl⟩:=F;exact asT asZ (B7.2 i (a9 st.tm y) v (by rw[bo,al];rfl) G)
  obtain⟨mF,jK⟩:=cQ f _ _ _ im;have hE:=jK _ w _ _ bR Qt;unfold Oper.wp;rw[Ej H mG mF,J.dst];refine Calls.mono hE λe aT he=>?_;obtain⟨v,BK,rfl,c9,aA⟩:=he;refine⟨_,h.put (asW h.ok.dX (λb ad=>?_) c9.aE) ?_ J.lt⟩
  ·obtain⟨yG,e,ag,ue⟩:=ad
   by_cases dL:yG=k
   ·simp only[ab dL] at ag;exact⟨e,ag,ue⟩
   ·simp only[ae dL] at ag;cases ag
  ·cases aA with
   |M aA =>
    refine .M (aA.less λb ad=>?_);rcases ad with ⟨yG,e,ag,ue⟩|aO
    ·by_cases dL:yG=k
     ·rw[dL,hn] at ag;cases ag;cases ue
     ·rw[hh B _ dL] at ag;exact .inr (.inr ⟨yG,e,dL,ag,ue⟩)
    ·exact .inr (.inl aO)
 |jV f args=>rw[ud] at X;cases X
 |qt neg x=>rw[ud] at X;cases X
 |_=>exact plain (by rw[ud] at X ⊢;exact X)
def aep {α β:Type}{f:α->Option β}{xs:List α}{ys:List β}(h:xs.mapM f=some ys){i:Nat}{x:α}(Q:xs[i]?=some x):∃y,ys[i]?=some y/\f x=some y:=by
 obtain⟨F,G⟩:=oM h;have aq:i<D ys:=by rw[F];exact (dK.1 Q).1
 exact⟨_,bn aq,G i x _ Q (bn aq)⟩
def WR (cQ:qF P T){j6:Nat->Nat->Bool}(a3:ops.toList.mapM (BQ P n kb own ops)=some l)(e3:∀st a w B,K st->hK n A dG hp a st w B->aN .normal a w):
  ∀(fuel:Nat) (eV:Array Bool) (rec:Rec) (st:bc) (a:Act) (w:World) (B:e7),hK n A dG hp a st w B->Ht T j6 ops l K fuel eV rec st->wpAny P .any ops aN fuel eV a w
 |0,_,_,_,_,_,_,X,h=>⟨h.1,e3 _ _ _ _ h.2 X⟩
 |fuel+1,eV,rec,st,a,w,B,X,h=>by
  refine⟨λau=>e3 _ _ _ _ (h.1 au) X,λi J=>?_⟩;obtain⟨x,z4,dQ,Q,hex,I⟩:=h.2 i J;obtain⟨_,o,bx,_⟩:=mem_ready.1 J;obtain⟨y,al,WS⟩:=aep a3 (i:=i) (x:=o) (by simpa using bx);rw[Q] at al
  cases al;have yH:=adS WS;unfold wpOp;simp only[bx];rcases hex with ⟨a8,rfl,rfl⟩|⟨a8,m,e,as0,_,rfl,rfl⟩
  ·rw[WA X yH.guard a8,ae (by simp)];exact WR cQ a3 e3 fuel _ _ _ _ _ B (by rw[yH.dst];exact X.put (.refl X.ok.dX) .no yH.lt) I
  ·rw[WA X yH.guard a8,ab rfl];refine .inl (Oper.wp_mono (λj2 aT ⟨br,jI⟩=>WR cQ a3 e3 fuel _ _ _ _ _ br jI I) (asY cQ X yH as0))
def hK.drew {a:Act}{st:bc}(h:hK n A dG hp a st w B)(d:Nat):hK n A dG hp a st { w with drawn:=d } B:=by
 have X:eE A w B { w with drawn:=d } B st.mem:=.still h.ok.dX ((Fr.refl _ _).drew d);exact⟨h.ok.trans X,λs=>(h.tm s).rK X.m9,h.sz,h.Lk⟩
def as1 (cQ:qF P T)(hm:P.follows .mixedOrders=true){id:Nat}{a:Act}{st:bc}(a3:ops.toList.mapM (BQ P n kb own ops)=some l)(Y:Hd ops l=true)(X:hK n A dG hp a st w B)
  (h:w4 T K 0 l (zU [] l (qx ops.toList [])) (λ_=>none) st) (e3:∀st a w B,K st->hK n A dG hp a st w B->aN .normal a w):(Code.region id ops true).wp P aN a w:=by
 refine wp_region_any hm ?_
 have ak:(D l)=ops.size:=by
  rw[(oM a3).1,Array.length_toList]
 have Lt:=aem (asM Y) ak (by unfold Hd at Y;rw[eQ] at Y;exact Y.1) l 0 (λ_=>none) st (Array.replicate ops.size false) rfl (by simp) (by simp) (λi J=>by simp[J]) (λ_ _=>rfl) h;rw[ak] at Lt;exact WR cQ a3 e3 ops.size _ _ _ _ _ B (X.drew _) Lt
def WT (cQ:qF P T)(a3:ops.toList.mapM (BQ P n kb own ops)=some l)(e3:∀st a w B,K st->hK n A dG hp a st w B->aN .normal a w):
  ∀(r:List cq) (m:Nat) (st:bc) (a:Act) (w:World) (B:e7),l.drop m=r->hK n A dG hp a st w B->yr T K r st->wpOps P ops aN (List.range' m (D r)) a w
 | [],_,_,_,_,_,_,X,h=>e3 _ _ _ _ h X
 |x::r,m,st,a,w,B,aa,X,h=>by
  have Q:l[m]?=some x:=by
   have:(l.drop m)[0]?=some x:=by rw[aa];rfl
   simpa using this
  have BV:l.drop (m+1)=r:=by rw[<-Hv,aa];rfl
  have aq:m<ops.size:=by
   have F:=(oM a3).1;have G:=(dK.1 Q).1;simp at F;omega
  have bx:ops[m]?=some ops[m]:=Array.getElem?_eq_getElem aq;obtain⟨y,al,WS⟩:=aep a3 (i:=m) (x:=ops[m]) (by simp);rw[Q] at al
  cases al;have yH:=adS WS;simp only[hQ,List.range'_succ];rw[wpOps_cons];unfold wpOp;simp only[bx];simp only[yr] at h
  split at h
  ·cases h
  ·rename_i g a8;rw[WA X yH.guard a8]
   cases g with
   |true =>
    simp only[if_true] at h ⊢;exact .inl (Oper.wp_mono (λj2 aT ⟨dQ,br,I,jI⟩=>WT cQ a3 e3 r (m+1) dQ j2 aT br BV jI I) (asg cQ X yH h))
   |false =>
    simp only[lD,if_false] at h ⊢;exact WT cQ a3 e3 r (m+1) _ _ _ B BV (X.put (.refl X.ok.dX) .no yH.lt) (by rw[<-yH.dst];exact h)
end Go.Mini
namespace Go.Mini
open Go
variable {A:Nat->Prop} {w:World} {B:e7} {mem:Mem}
def aeq (bR:fs A w B mem){a2:Nat->Prop}(fN:∀b,a2 b->A b){k:Key}{e:mw}{b:Nat}(he:B k=some e)(ad:e.dr=some b):¬ a2 b :=
 λh=>bR.sep b (fN b h) ⟨k,e,he,ad⟩
def snap (bR:fs A w B mem){a2:Nat->Prop}(fN:∀b,a2 b->A b):∀(d:Nat) (m:O) (v:Value) (r:Data),b5 d mem m=some r->bp w (b4 A B) B m v->Den w a2 r v:=by
 have aer:∀(d:Data) (v:Value),bp w (b4 A B) B (.M d) v->Den w a2 d v:=λd v h=>by
  cases h with
  |M h=>exact h.less λb ad => .inr (fN b ad)
 have Qu:∀v,bp w (b4 A B) B .nil v->Den w a2 (.ay []) v:=λv h=>by
  cases h;exact .l0
 intro d
 induction d with
 |zero =>
  intro m v r h aA
  cases m<;>simp only[b5,cl,reduceCtorEq] at h
  ·subst h;exact aer _ _ aA
  ·subst h;exact Qu _ aA
 |succ d av =>
  intro m v r h aA
  have lists:∀(cs:List O) (vs:List Value) (ds:List Data),cs.mapM (b5 d mem)=some ds->(D vs)=(D cs)->(∀(i:Nat) (x:O) (u:Value),cs[i]?=some x->vs[i]?=some u->bp w (b4 A B) B x u) ->
    (D vs)=D ds/\∀(i:Nat) (x:Data) (u:Value),ds[i]?=some x->vs[i]?=some u->Den w a2 x u:=by
   intro cs vs ds gp ak aa;obtain⟨F,G⟩:=oM gp;refine⟨by omega,λi x u Q hu=>?_⟩
   have aq:i<D cs:=by have:=(dK.1 Q).1;omega
   have kM:=bn aq;exact av _ u x (G i _ x kM Q) (aa i _ u kM hu)
  cases m<;>simp only[b5,cl,dS,reduceCtorEq] at h
  case M=>subst h;exact aer _ _ aA
  case nil=>subst h;exact Qu _ aA
  case ref k g sz off len =>
   split at h
   ·rename_i cV cs I
    split at h
    ·rename_i a8;subst a8
     split at h
     ·rename_i part WO;simp only[dS] at h;obtain⟨ds,gp,rfl⟩:=h;obtain⟨ee,rfl,nD⟩:=Hh WO;obtain⟨F,G⟩:=oM gp
      cases aA with
      |ref he hgle aa =>
       obtain⟨e,gA,ca,aH,ad⟩:=bR.at_ I;rw[gA] at he
       cases he;obtain⟨a,cap,rfl,af,aS,bt⟩:=aa;rcases bt with bt|⟨b,rfl,b2⟩
       ·have:len=0:=by omega
        subst this;simp only[chunk];exact .l0
       ·obtain⟨cb,cN⟩:=b2 ca.symm;obtain⟨vs,T,aX,aV,hle,b0⟩:=ad b cb;refine aeo aX (aeq bR fN gA cb) (by omega) af (by omega) (by omega) λi x u Q hu=>?_;have aq:i<D ds:=(dK.1 Q).1;have lg:off+i<D cs:=by omega
        have kM:((cs.drop off).take (len*sz))[i]?=some cs[off+i]:=by
         rw[rZ (by omega),lE,bn lg]
        refine av _ u x (G i _ x kM Q) (b0.2 (off+i) _ u (bn lg) ?_);rw[rZ lg,Array.getElem?_toList];exact hu
     ·cases h
    ·cases h
   ·cases h
  case ptr k g off =>
   split at h
   ·rename_i cV cs I
    split at h
    ·rename_i a8;obtain⟨rfl,Wq⟩:=a8;simp only[dS] at h;obtain⟨ds,gp,rfl⟩:=h;obtain⟨F,G⟩:=oM gp
     cases aA with
     |ptr he hgle aa =>
      obtain⟨e,gA,ca,aH,ad⟩:=bR.at_ I;rw[gA] at he
      cases he;obtain⟨b,rfl,b2⟩:=aa;have cb:=b2 ca.symm;obtain⟨vs,T,aX,aV,hle,b0⟩:=ad b cb;rw[List.length_drop] at F;refine .ptr (λi=>vs.getD (off+i) undef) (Array.getElem?_eq_some_iff.1 aX).1 (aeq bR fN gA cb) (λi J=>?_) λi x Q=>?_
      ·rw[cell_of_row w b (off+i) vs T (0,0) aX];have:off+i<vs.size:=by omega
       simp[this]
      ·have aq:i<D ds:=(dK.1 Q).1;have lg:off+i<D cs:=by omega
       have Lu:off+i<vs.size:=by omega
       have kM:(cs.drop off)[i]?=some cs[off+i]:=by
        rw[lE,bn lg]
       have hu:vs.getD (off+i) undef=vs[off+i]:=by simp[Lu]
       rw[hu];refine av _ _ x (G i _ x kM Q) (b0.2 (off+i) _ _ (bn lg) ?_);rw[rZ lg,Array.getElem?_toList];exact Array.getElem?_eq_getElem Lu
    ·cases h
   ·cases h
  case fx f cs =>
   obtain⟨ds,gp,rfl⟩:=h
   cases aA with
   |fx ak Y=>obtain⟨F,G⟩:=lists _ _ _ gp ak Y;exact .fn F G
  case agg cs =>
   obtain⟨ds,gp,rfl⟩:=h
   cases aA with
   |agg ak Y=>obtain⟨F,G⟩:=lists _ _ _ gp ak Y;exact .agg F G
  case cP cs =>
   obtain⟨ds,gp,rfl⟩:=h
   cases aA with
   |cP ak Y=>obtain⟨F,G⟩:=lists _ _ _ gp ak Y;exact .cP F G
def bp.shift {a2 mv:Nat->Prop}{br:e7}(fN:∀b,mv b->a2 b)(I:∀k e,B k=some e->∃e',br k=some e'/\(e'=e\/e.g<e'.g)){m:O}{v:Value}(h:bp w a2 B m v):bp w mv br m v:=by
 induction h with
 |M h=>exact .M (h.less fN)
 |nil=>exact .nil
 | @ref k g sz off len e v he a8 aA =>
  obtain⟨e',gA,aX⟩:=I k e he;rcases aX with rfl|aX
  ·exact .ref gA a8 aA
  ·exact .ref gA (by omega) (aA.KD (by omega))
 | @ptr k g off e v he a8 aA =>
  obtain⟨e',gA,aX⟩:=I k e he;rcases aX with rfl|aX
  ·exact .ptr gA a8 aA
  ·exact .ptr gA (by omega) (aA.KD (by omega))
 |fx ak Y av=>exact .fx ak av
 |agg ak Y av=>exact .agg ak av
 |cP ak Y av=>exact .cP ak av
 |no=>exact .no
 |undef=>exact .undef
def kill_shut (bR:fs A w B mem){k:Key}{g:Nat}{cs:List O}{e:mw}{b:Nat}(I:mem k=some (g,cs))(he:B k=some e)(ad:e.dr=some b):
  fs (λfk=>A fk\/fk=b) w (gD B k ⟨bQ mem k,none,0⟩) (kill mem k)/\(∀m v,bp w (b4 A B) B m v->bp w (b4 (λfk=>A fk\/fk=b) (gD B k ⟨bQ mem k,none,0⟩)) (gD B k ⟨bQ mem k,none,0⟩) m v):=by
 have a8:=DY bR k e he
 have fN:∀fk,b4 (λfk=>A fk\/fk=b) (gD B k ⟨bQ mem k,none,0⟩) fk->b4 A B fk:=λfk h=>by
  rcases h with ⟨j,aD,ag,Q⟩|h|rfl
  ·by_cases dL:j=k
   ·subst dL;rw[hn] at ag;cases ag;cases Q
   ·rw[hh B _ dL] at ag;exact .inl ⟨j,aD,ag,Q⟩
  ·exact .inr h
  ·exact .inl ⟨k,e,he,ad⟩
 have as2:∀j aD,B j=some aD->∃e',gD B k ⟨bQ mem k,none,0⟩ j=some e'/\(e'=aD\/aD.g<e'.g):=λj aD ag=>by
  by_cases dL:j=k
  ·subst dL;rw[he] at ag
   cases ag;exact⟨_,hn _ _ _,.inr a8⟩
  ·exact⟨aD,by rw[hh B _ dL];exact ag,.inl rfl⟩
 have shift:∀m v,bp w (b4 A B) B m v->bp w (b4 (λfk=>A fk\/fk=b) (gD B k ⟨bQ mem k,none,0⟩)) (gD B k ⟨bQ mem k,none,0⟩) m v:=λm v h=>h.shift fN as2;refine⟨⟨λj ag=>?_,λj l1 az aD fk F G af aS=>?_,λfk aO bx=>?_,λfk aO=>?_,λj cV jo ag=>?_⟩,shift⟩
 ·by_cases dL:j=k
  ·subst dL;simp[kill,a4] at ag
  ·rw[hh B _ dL];simp only[kill,a4,dL,if_false] at ag;exact bR.BL j ag
 ·by_cases dL:j=k
  ·subst dL;rw[hn] at F;cases F;cases af
  ·by_cases hjk':l1=k
   ·subst hjk';rw[hn] at G;cases G;cases aS
   ·rw[hh B _ dL] at F;rw[hh B _ hjk'] at G;exact bR.inj j l1 az aD fk F G af aS
 ·obtain⟨j,aD,ag,Q⟩:=bx
  by_cases dL:j=k
  ·subst dL;rw[hn] at ag;cases ag;cases Q
  ·rw[hh B _ dL] at ag;rcases aO with aO|rfl
   ·exact bR.sep fk aO ⟨j,aD,ag,Q⟩
   ·exact dL (bR.inj j k aD e fk ag he Q ad)
 ·rcases aO with aO|rfl
  ·exact bR.lt fk aO
  ·exact bR.w0 ⟨k,e,he,ad⟩
 ·by_cases dL:j=k
  ·subst dL;simp only[kill,a4,if_true,cl,e2] at ag;obtain⟨rfl,rfl⟩:=ag;exact⟨_,hn _ _ _,rfl,λ_=>rfl,λfk kK=>by cases kK⟩
  ·simp only[kill,a4,dL,if_false] at ag;obtain⟨aD,F,G,af,aS⟩:=bR.dr j cV jo ag;refine⟨aD,by rw[hh B _ dL];exact F,G,af,λfk kK=>?_⟩
   obtain⟨vs,T,bt,b2,cb,cN⟩:=aS fk kK;exact⟨vs,T,bt,b2,cb,λi m hm=>let ⟨v,aA,aa⟩:=cN i m hm;⟨v,aA,shift m v aa⟩⟩
end Go.Mini
namespace Go.Mini
open Go
variable {P:Program} {T:ba} {A:Nat->Prop} {dG w:World} {hp B:e7} {mem:Mem} {n kb:Nat} {own:List Nat} {aN:Exit->Act->World->Prop}
def aes {k:Key}{a2 mv:Nat->Prop}{br:e7}{v:Value}{sz:Nat}{e:mw}(he:B k=some e)(aA:bp w a2 br .nil v):bp w mv B (.ref k e.g sz 0 0) v:=by
 cases aA;exact .ref he (bM _) ⟨_,0,rfl,bM _,fy _,.inl rfl⟩
def El {k:Key}{g i:Nat}{cs:List O}{m m':O}{w1:World}(bR:fs A w B mem)(I:mem k=some (g,cs))(J:cs[i]?=some m)
  (aA:∀e b v,B k=some e->e.dr=some b->w.cell? ⟨b,i,none⟩=some v->bp w (b4 A B) B m' v):∃br,eE A w B w br (a4 mem k g (cs.set i m')):=by
 obtain⟨e,he,ca,aH,ad⟩:=bR.at_ I
 have ok:=eE.change (k:=k) (e':=e) (cs:=cs.set i m') bR (Fr.refl _ w) (λaD fr => .inl (by rw[he] at fr;cases fr;rfl)) (λb eO => .inr ⟨e,he,eO⟩) (λh=>by
  have:=aH h;subst this
  rfl) (λb eO=>by
  obtain⟨vs,T,aX,aV,hle,b0⟩:=ad b eO;refine⟨vs,T,aX,aV,by simpa using hle,λj x Q=>?_⟩
  by_cases mI:i=j
  ·subst mI;have aq:i<D cs:=(dK.1 J).1;rw[Hw aq] at Q
   cases Q;have pX:i<vs.size:=by omega
   exact⟨vs[i],Array.getElem?_eq_getElem pX,aA e b _ he eO (by rw[cell_of_row w b i vs T (0,0) aX];exact Array.getElem?_eq_getElem pX)⟩
  ·rw[WQ mI] at Q;obtain⟨v,Lv,aa⟩:=b0.get Q;refine⟨v,?_,aa⟩;have aq:j<D cs:=(dK.1 Q).1;rw[rZ aq,Array.getElem?_toList] at Lv;exact Lv)
 rw[ca] at ok;exact⟨_,ok⟩
def eE.move {k k':Key}{g:Nat}{cs:List O}{e:mw}(h:fs A w B mem)(I:mem k=some (g,cs))(he:B k=some e)(bE:k'≠k):
  eE A w B w (gD (gD B k ⟨bQ mem k,none,0⟩) k' ⟨bQ mem k',e.dr,e.size⟩) (a4 (a4 mem k (bQ mem k) []) k' (bQ mem k') cs):=by
 have p1:∀b,sD (gD (gD B k ⟨bQ mem k,none,0⟩) k' ⟨bQ mem k',e.dr,e.size⟩) b->sD B b:=by
  rintro b ⟨j,aD,ag,ad⟩
  by_cases F:j=k'
  ·subst F;rw[hn] at ag
   cases ag;exact⟨k,e,he,ad⟩
  ·rw[hh _ _ F] at ag
   by_cases G:j=k
   ·subst G;rw[hn] at ag
    cases ag
    cases ad
   ·rw[hh _ _ G] at ag;exact⟨j,aD,ag,ad⟩
 have m9:Trans A w B w (gD (gD B k ⟨bQ mem k,none,0⟩) k' ⟨bQ mem k',e.dr,e.size⟩):=by
  refine⟨bM _,λb _ ad=>⟨rfl,λbx=>ad (.inl (p1 b bx))⟩,λj aD ag=>?_⟩
  by_cases F:j=k'
  ·subst F;exact⟨_,hn _ _ _,.inr (DY h j aD ag)⟩
  ·rw[hh _ _ F]
   by_cases G:j=k
   ·subst G;exact⟨_,hn _ _ _,.inr (DY h j aD ag)⟩
   ·rw[hh _ _ G];exact⟨aD,ag,.inl rfl⟩
 refine⟨⟨λj ag=>?_,λj l1 az aD b F G lh eO=>?_,λb aO bx=>h.sep b aO (p1 b bx),h.lt,λj b6 oh ag=>?_⟩,m9,Fr.refl _ _,λb ad => .inl (p1 b ad)⟩
 ·simp only[a4] at ag
  by_cases F:j=k'
  ·simp[F] at ag
  ·by_cases G:j=k
   ·rw[ae F,ab G] at ag
    cases ag
   ·simp only[F,G,if_false] at ag;rw[hh _ _ F,hh _ _ G];exact h.BL j ag
 ·have main:∀(j:Key) (az:mw),gD (gD B k ⟨bQ mem k,none,0⟩) k' ⟨bQ mem k',e.dr,e.size⟩ j=some az->az.dr=some b->(j=k'/\e.dr=some b)\/(j≠k'/\j≠k/\B j=some az):=by
   intro j az ag ad
   by_cases F:j=k'
   ·subst F;rw[hn] at ag
    cases ag;exact .inl ⟨rfl,ad⟩
   ·rw[hh _ _ F] at ag
    by_cases G:j=k
    ·subst G;rw[hn] at ag
     cases ag
     cases ad
    ·rw[hh _ _ G] at ag;exact .inr ⟨F,G,ag⟩
  rcases main j az F lh with ⟨eU,iG⟩|⟨eU,s1,iG⟩<;>rcases main l1 aD G eO with ⟨ey,h9⟩|⟨ey,s2,h9⟩
  ·rw[eU,ey]
  ·exact absurd (h.inj k l1 e aD b he h9 iG eO).symm s2
  ·exact absurd (h.inj k j e az b he iG h9 lh).symm s1
  ·exact h.inj j l1 az aD b iG h9 lh eO
 ·simp only[a4] at ag
  by_cases F:j=k'
  ·subst F;simp only[if_true,cl,e2] at ag;obtain⟨rfl,rfl⟩:=ag;obtain⟨bZ,Lw,a8,aH,ad⟩:=h.dr k g cs I;rw[he] at Lw
   cases Lw
   refine⟨_,hn _ _ _,rfl,aH,λb jZ=>?_⟩;obtain⟨vs,T,af,aS,bt,b2⟩:=ad b jZ;exact⟨vs,T,af,aS,bt,λi m J=>let ⟨v,aA,aa⟩:=b2 i m J;⟨v,aA,aa.rK m9⟩⟩
  ·simp only[F,if_false] at ag;rw[hh _ _ F]
   by_cases G:j=k
   ·subst G;simp only[if_true,cl,e2] at ag;obtain⟨rfl,rfl⟩:=ag;exact⟨_,hn _ _ _,rfl,λ_=>rfl,λb ad=>by cases ad⟩
   ·simp only[G,if_false] at ag;rw[hh _ _ G];obtain⟨bZ,Lw,a8,aH,ad⟩:=h.dr j b6 oh ag;refine⟨bZ,Lw,a8,aH,λb jZ=>?_⟩;obtain⟨vs,T,af,aS,bt,b2⟩:=ad b jZ;exact⟨vs,T,af,aS,bt,λi m J=>let ⟨v,aA,aa⟩:=b2 i m J;⟨v,aA,aa.rK m9⟩⟩
def hK.ghost {a:Act}{st:bc}{br:e7}{mem':Mem}{tm':Nat->O}(h:hK n A dG hp a st w B)(X:eE A w B w br mem')(bz:∀s,tm' s=st.tm s\/bp w (b4 A br) br (tm' s) (a.eval (.tmp s))):
  hK n A dG hp a ⟨tm',mem'⟩ w br:=by
 refine⟨h.ok.trans X,λs=>?_,h.sz,h.Lk⟩;rcases bz s with F|F
 ·simp only[F];exact (h.tm s).rK X.m9
 ·exact F
def as3 {K:bc->Prop}{a:Act}{st:bc}{g:PN}(h:hK n A dG hp a st w B)(I:lC K st g):∃dQ br,K dQ/\hK n A dG hp a dQ w br:=by
 have tW:∀x:bI,∃v,bp w (b4 A B) B (a9 st.tm x) v\/∃m,x=.c m:=λx=>by
  cases x with
  |t s=>exact⟨_,.inl (h.tm s)⟩
  |c m=>exact⟨undef,.inr ⟨m,rfl⟩⟩
 cases g with
 |oa s k sz =>
  simp only[lC] at I
  split at I
  ·rename_i X;have ok:=eE.yx h.ok.dX k;refine⟨_,_,I,h.ghost ok λt=>?_⟩
   by_cases uf:t=s
   ·subst uf;have:=h.tm t;rw[X] at this;simp only[eN,if_true];exact .inr (aes (e:=⟨bQ st.mem k,none,0⟩) (hn _ _ _) this)
   ·exact .inl (by simp[eN,uf])
  ·cases I
 |freeze s =>
  simp only[lC] at I
  split at I
  ·rename_i k g sz off len X
   split at I
   ·rename_i cV cs fL
    split at I
    ·rename_i a8;obtain⟨rfl,_⟩:=a8
     split at I
     ·rename_i d Y;have ok:=eE.yx h.ok.dX k;refine⟨_,_,I,h.ghost ok λt=>?_⟩
      by_cases uf:t=s
      ·subst uf;have aA:=h.tm t;rw[X] at aA Y;simp only[eN,if_true];exact .inr (.M (Ls h.ok.dX fL Y aA))
      ·exact .inl (by simp[eN,uf])
     ·cases I
    ·cases I
   ·cases I
  ·cases I
 |PO x i k sz =>
  simp only[lC] at I
  split at I
  ·rename_i kc g off Q
   split at I
   ·rename_i cV cs fL
    split at I
    ·rename_i a8;subst a8
     split at I
     ·rename_i H
      split at I
      ·rename_i bE;have ok:=eE.yx h.ok.dX k;have ug:a4 st.mem k (bQ st.mem k) [] kc=some (cV,cs):=by simp[a4,Ne.symm bE,fL]
       obtain⟨e,he,ca,aH,ad⟩:=h.ok.dX.at_ fL
       obtain⟨br,qI⟩:=El (w1:=w) (m':=.ref k (bQ st.mem k) sz 0 0) ok.dX ug H (λaD b v fr eO aA=>by
        rw[hh B _ (Ne.symm bE)] at fr;rw[he] at fr
        cases fr;obtain⟨vs,T,aX,aV,hle,b0⟩:=ad b eO;have aq:off+i<D cs:=(dK.1 H).1;rw[cell_of_row w b (off+i) vs T (0,0) aX] at aA;have aa:=b0.2 (off+i) _ v H (by rw[rZ aq,Array.getElem?_toList];exact aA);exact aes (e:=⟨bQ st.mem k,none,0⟩) (hn _ _ _) aa)
       exact⟨_,br,I,h.ghost (ok.trans qI) λt => .inl rfl⟩
      ·cases I
     ·cases I
    ·cases I
   ·cases I
  ·cases I
 |PQ x i =>
  simp only[lC] at I
  split at I
  ·rename_i kc gc off Q
   split at I
   ·rename_i K3 cc aet
    split at I
    ·rename_i a8;subst a8
     split at I
     ·rename_i k g sz o len H
      split at I
      ·rename_i cV cs fL
       split at I
       ·rename_i a8;obtain⟨rfl,_,bE⟩:=a8
        split at I
        ·rename_i d Y;have ok:=eE.yx h.ok.dX k;have ug:a4 st.mem k (bQ st.mem k) [] kc=some (K3,cc):=by simp[a4,Ne.symm bE,aet]
         obtain⟨e,he,ca,aH,ad⟩:=h.ok.dX.at_ aet
         obtain⟨br,qI⟩:=El (w1:=w) (m':=.M d) ok.dX ug H (λaD b v fr eO aA=>by
          rw[hh B _ (Ne.symm bE)] at fr;rw[he] at fr
          cases fr;obtain⟨vs,T,aX,aV,hle,b0⟩:=ad b eO;have aq:off+i<D cc:=(dK.1 H).1;rw[cell_of_row w b (off+i) vs T (0,0) aX] at aA;have aa:=b0.2 (off+i) _ v H (by rw[rZ aq,Array.getElem?_toList];exact aA);exact .M (Ls h.ok.dX fL Y aa))
         exact⟨_,br,I,h.ghost (ok.trans qI) λt => .inl rfl⟩
        ·cases I
       ·cases I
      ·cases I
     ·cases I
    ·cases I
   ·cases I
  ·cases I
 |move =>
  rcases I with I|⟨fP,g6,gP,i,k,g,sz,off,len,cs,k',h4,H,yI,F,G,af,I⟩|⟨fP,g6,gP,i,k,g,sz,off,len,cs,d,h4,H,fL,-,bE,Y,I⟩
  ·exact⟨st,B,I,h⟩
  ·obtain⟨e,he,ca,aH,ad⟩:=h.ok.dX.at_ yI;have ok:=eE.move h.ok.dX yI he G;have ug:a4 (a4 st.mem k (bQ st.mem k) []) k' (bQ st.mem k') cs fP=some (g6,gP):=by simp[a4,Ne.symm F,Ne.symm af,h4]
   obtain⟨ex,hex,aeu,gJ,Lx⟩:=h.ok.dX.at_ h4
   obtain⟨br,qI⟩:=El (w1:=w) (m':=.ref k' (bQ st.mem k') sz off len) ok.dX ug H (λaD b v fr eO aA=>by
    rw[hh _ _ (Ne.symm af),hh _ _ (Ne.symm F)] at fr;rw[hex] at fr
    cases fr;obtain⟨vs,T,aX,aV,hle,b0⟩:=Lx b eO;have aq:i<D gP:=(dK.1 H).1;rw[cell_of_row w b i vs T (0,0) aX] at aA;have aa:=b0.2 i _ v H (by rw[rZ aq,Array.getElem?_toList];exact aA)
    cases aa with
    |ref fr hgle aa =>
     rw[he] at fr
     cases fr;obtain⟨a,cap,rfl,aS,bt,b2⟩:=aa;refine .ref (hn _ _ _) (bM _) ⟨a,cap,rfl,aS,bt,b2.imp id ?_⟩;rintro⟨fk,rfl,cb⟩;exact⟨fk,rfl,λ_=>cb ca.symm⟩)
   exact⟨_,br,I,h.ghost (ok.trans qI) λt => .inl rfl⟩
  ·have ok:=eE.yx h.ok.dX k;have ug:a4 st.mem k (bQ st.mem k) [] fP=some (g6,gP):=by simp[a4,Ne.symm bE,h4]
   obtain⟨e,he,ca,aH,ad⟩:=h.ok.dX.at_ h4
   obtain⟨br,qI⟩:=El (w1:=w) (m':=.M d) ok.dX ug H (λaD b v fr eO aA=>by
    rw[hh B _ (Ne.symm bE)] at fr;rw[he] at fr
    cases fr;obtain⟨vs,T,aX,aV,hle,b0⟩:=ad b eO;have aq:i<D gP:=(dK.1 H).1;rw[cell_of_row w b i vs T (0,0) aX] at aA;have aa:=b0.2 i _ v H (by rw[rZ aq,Array.getElem?_toList];exact aA);exact .M (Ls h.ok.dX fL Y aa))
   exact⟨_,br,I,h.ghost (ok.trans qI) λt => .inl rfl⟩
 |many =>
  obtain⟨mem',WU,I⟩:=I
  have main:∀{gq dw:Mem},tQ gq dw->∀B,hK n A dG hp a ⟨st.tm,gq⟩ w B->∃br,hK n A dG hp a ⟨st.tm,dw⟩ w br:=by
   intro gq dw WU
   induction WU with
   |refl mem=>exact λB h=>⟨B,h⟩
   | @step gq dw cv X _ av =>
    intro B h
    have one:∃br,hK n A dG hp a ⟨st.tm,dw⟩ w br:=by
     cases X with
     |PX fP g6 gP i k g sz off len cs k' h4 H yI F G af =>
      obtain⟨e,he,ca,aH,ad⟩:=h.ok.dX.at_ yI;have ok:=eE.move h.ok.dX yI he G;have ug:a4 (a4 gq k (bQ gq k) []) k' (bQ gq k') cs fP=some (g6,gP):=by simp[a4,Ne.symm F,Ne.symm af,h4]
      obtain⟨ex,hex,aeu,gJ,Lx⟩:=h.ok.dX.at_ h4
      obtain⟨br,qI⟩:=El (w1:=w) (m':=.ref k' (bQ gq k') sz off len) ok.dX ug H (λaD b v fr eO aA=>by
       rw[hh _ _ (Ne.symm af),hh _ _ (Ne.symm F)] at fr;rw[hex] at fr
       cases fr;obtain⟨vs,T,aX,aV,hle,b0⟩:=Lx b eO;have aq:i<D gP:=(dK.1 H).1;rw[cell_of_row w b i vs T (0,0) aX] at aA;have aa:=b0.2 i _ v H (by rw[rZ aq,Array.getElem?_toList];exact aA)
       cases aa with
       |ref fr hgle aa =>
        rw[he] at fr
        cases fr;obtain⟨a,cap,rfl,aS,bt,b2⟩:=aa;refine .ref (hn _ _ _) (bM _) ⟨a,cap,rfl,aS,bt,b2.imp id ?_⟩;rintro⟨fk,rfl,cb⟩;exact⟨fk,rfl,λ_=>cb ca.symm⟩)
      exact⟨br,h.ghost (ok.trans qI) λt => .inl rfl⟩
     |ac5 fP g6 gP i k g off cs k' h4 H yI F G af =>
      obtain⟨e,he,ca,aH,ad⟩:=h.ok.dX.at_ yI;have ok:=eE.move h.ok.dX yI he G;have ug:a4 (a4 gq k (bQ gq k) []) k' (bQ gq k') cs fP=some (g6,gP):=by simp[a4,Ne.symm F,Ne.symm af,h4]
      obtain⟨ex,hex,aeu,gJ,Lx⟩:=h.ok.dX.at_ h4
      obtain⟨br,qI⟩:=El (w1:=w) (m':=.ptr k' (bQ gq k') off) ok.dX ug H (λaD b v fr eO aA=>by
       rw[hh _ _ (Ne.symm af),hh _ _ (Ne.symm F)] at fr;rw[hex] at fr
       cases fr;obtain⟨vs,T,aX,aV,hle,b0⟩:=Lx b eO;have aq:i<D gP:=(dK.1 H).1;rw[cell_of_row w b i vs T (0,0) aX] at aA;have aa:=b0.2 i _ v H (by rw[rZ aq,Array.getElem?_toList];exact aA)
       cases aa with
       |ptr fr hgle aa =>
        rw[he] at fr
        cases fr;obtain⟨fk,rfl,cb⟩:=aa;exact .ptr (hn _ _ _) (bM _) ⟨fk,rfl,λ_=>cb ca.symm⟩)
      exact⟨br,h.ghost (ok.trans qI) λt => .inl rfl⟩
     |PY fP g6 gP i k g sz off len cs d h4 H fL bE Y =>
      have ok:=eE.yx h.ok.dX k;have ug:a4 gq k (bQ gq k) [] fP=some (g6,gP):=by simp[a4,Ne.symm bE,h4]
      obtain⟨e,he,ca,aH,ad⟩:=h.ok.dX.at_ h4
      obtain⟨br,qI⟩:=El (w1:=w) (m':=.M d) ok.dX ug H (λaD b v fr eO aA=>by
       rw[hh B _ (Ne.symm bE)] at fr;rw[he] at fr
       cases fr;obtain⟨vs,T,aX,aV,hle,b0⟩:=ad b eO;have aq:i<D gP:=(dK.1 H).1;rw[cell_of_row w b i vs T (0,0) aX] at aA;have aa:=b0.2 i _ v H (by rw[rZ aq,Array.getElem?_toList];exact aA);exact .M (Ls h.ok.dX fL Y aa))
      exact⟨br,h.ghost (ok.trans qI) λt => .inl rfl⟩
    obtain⟨br,cj⟩:=one;exact av br cj
  obtain⟨br,cj⟩:=main WU B h;exact⟨_,br,I,cj⟩
def erase:eh->eh
 |.skip => .skip
 |.ops l => .ops l
 |.mz l c => .mz l c
 |.seq a b => .seq (erase a) (erase b)
 |.cond c a b => .cond c (erase a) (erase b)
 |.block id c => .block id (erase c)
 |.loop c => .loop (erase c)
 |.exit id => .exit id
 |.ret => .ret
 |.ghost _ c=>erase c
def aev:eT->Exit
 |.normal => .normal
 |.exit id => .exit id
 |.ret => .ret
def as4 (P:Program)(n kb:Nat)(own:List Nat)(c:Code):eh->Prop
 |.skip=>c=.skip
 |.ops l=>∃id ops,c=.region id ops false/\ops.toList.mapM (BQ P n kb own ops)=some l
 |.mz l ch=>∃id ops,c=.region id ops true/\ops.toList.mapM (BQ P n kb own ops)=some l/\Hd ops l=true/\ch=zU [] l (qx ops.toList [])
 |.seq x y=>∃a b,c=.seq a b/\qy P n kb own a=some x/\qy P n kb own b=some y
 |.cond x y z=>∃ju a b,c=.cond ju a b/\dI ju=some x/\qy P n kb own a=some y/\qy P n kb own b=some z
 |.block id x=>∃a,c=.block id a/\qy P n kb own a=some x
 |.loop x=>∃a,c=.loop a/\qy P n kb own a=some x
 |.exit id=>c=.exit id
 |.ret=>c=.ret
 |.ghost ..=>False
def z7 {c:Code}{m:eh}(h:qy P n kb own c=some m):as4 P n kb own c m:=by
 cases c<;>simp only[qy,cl,reduceCtorEq,dS] at h
 case skip=>subst h;rfl
 case region id ops draw =>
  split at h
  ·rename_i l ak
   split at h
   ·rename_i Y;subst Y
    split at h
    ·rename_i cT
     cases h;exact⟨id,ops,rfl,ak,cT,rfl⟩
    ·cases h
   ·rename_i Y
    cases h;exact⟨id,ops,by rw[Bool.not_eq_true] at Y;rw[Y],ak⟩
  ·cases h
 case seq a b =>
  split at h
  ·rename_i x y Q al
   cases h;exact⟨a,b,rfl,Q,al⟩
  ·cases h
 case cond x a b =>
  split at h
  ·rename_i ju y z Q al aV
   cases h;exact⟨x,a,b,rfl,Q,al,aV⟩
  ·cases h
 case block id a =>
  obtain⟨x,Q,rfl⟩:=h;exact⟨a,rfl,Q⟩
 case loop a =>
  obtain⟨x,Q,rfl⟩:=h;exact⟨a,rfl,Q⟩
 case exit id=>subst h;rfl
 case ret=>subst h;rfl
def B8 (cQ:qF P T)(hm:P.follows .mixedOrders=true):∀(Qv:eh) (c:Code) (K:eT->bc->Prop) (aN:Exit->Act->World->Prop) (st:bc) (a:Act) (w:World) (B:e7),
  qy P n kb own c=some (erase Qv)->hK n A dG hp a st w B->wp T Qv K st->(∀e st a w B,K e st->hK n A dG hp a st w B->aN (aev e) a w)->c.wp P aN a w
 |.ghost g Qv,c,K,aN,st,a,w,B,a3,X,h,e3=>by
  obtain⟨dQ,br,I,jI⟩:=as3 X h;exact B8 cQ hm Qv c K aN dQ a w br a3 jI I e3
 |.skip,c,K,aN,st,a,w,B,a3,X,h,e3=>by
  obtain rfl:=z7 a3;exact Go.wp_skip (e3 .normal st a w B h X)
 |.exit id,c,K,aN,st,a,w,B,a3,X,h,e3=>by
  obtain rfl:=z7 a3;exact Go.wp_exit (e3 (.exit id) st a w B h X)
 |.ret,c,K,aN,st,a,w,B,a3,X,h,e3=>by
  obtain rfl:=z7 a3;exact Go.wp_ret (e3 .ret st a w B h X)
 |.ops l,c,K,aN,st,a,w,B,a3,X,h,e3=>by
  obtain⟨id,ops,rfl,ak⟩:=z7 a3;have:=WT (aN:=aN) (K:=K .normal) cQ ak (λst a w B I X=>e3 .normal st a w B I X) l 0 st a w B rfl X h;refine Go.wp_region ?_;rw[(oM ak).1,Array.length_toList] at this;rw[List.range_eq_range'];exact this
 |.mz l ch,c,K,aN,st,a,w,B,a3,X,h,e3=>by
  obtain⟨id,ops,rfl,ak,Y,rfl⟩:=z7 a3;exact as1 cQ hm ak Y X h λst a w B I X=>e3 .normal st a w B I X
 |.seq x y,c,K,aN,st,a,w,B,a3,X,h,e3=>by
  obtain⟨ju,y',rfl,Q,al⟩:=z7 a3;refine Go.wp_seq (B8 cQ hm x ju _ _ st a w B Q X h λe dQ j2 aT br I jI=>?_)
  cases e with
  |normal=>exact B8 cQ hm y y' _ _ dQ j2 aT br al jI I e3
  |exit id=>exact e3 (.exit id) dQ j2 aT br I jI
  |ret=>exact e3 .ret dQ j2 aT br I jI
 |.cond x y z,c,K,aN,st,a,w,B,a3,X,h,e3=>by
  obtain⟨ju,y',as5,rfl,Q,al,aV⟩:=z7 a3;have aA:=X.tZ ju x Q;simp only[wp] at h
  split at h
  ·rename_i t bz;rw[bz] at aA;refine Go.wp_cond aA.DZ ?_
   cases t with
   |true=>exact B8 cQ hm y y' _ _ st a w B al X h e3
   |false=>exact B8 cQ hm z as5 _ _ st a w B aV X h e3
  ·cases h
 |.block id x,c,K,aN,st,a,w,B,a3,X,h,e3=>by
  obtain⟨ju,rfl,Q⟩:=z7 a3;refine Go.wp_block (B8 cQ hm x ju _ _ st a w B Q X h λe dQ j2 aT br I jI=>?_)
  cases e with
  |normal=>exact e3 .normal dQ j2 aT br I jI
  |exit j =>
   simp only[aev,Exit.inBlock];simp only at I
   split
   ·rename_i ag;rw[ab ag] at I;exact e3 .normal dQ j2 aT br I jI
   ·rename_i ag;rw[ae ag] at I;exact e3 (.exit j) dQ j2 aT br I jI
  |ret=>exact e3 .ret dQ j2 aT br I jI
 |.loop x,c,K,aN,st,a,w,B,a3,X,h,e3=>by
  obtain⟨ju,rfl,Q⟩:=z7 a3;obtain⟨tR,μ,sQ,Qw⟩:=h
  have key:∀m (st:bc) (a:Act) (w:World) (B:e7),μ st<m->tR st->hK n A dG hp a st w B->Code.rounds P ju aN m a w:=by
   intro m
   induction m with
   |zero=>intro st a w B oi;omega
   |succ m av =>
    intro st a w B oi sQ X;refine B8 cQ hm x ju _ _ st a w B Q X (Qw st sQ) λe dQ j2 aT br I jI=>?_
    cases e with
    |normal=>exact av dQ j2 aT br (by have:=I.2;omega) I.1 jI
    |exit id=>exact e3 (.exit id) dQ j2 aT br I jI
    |ret=>exact e3 .ret dQ j2 aT br I jI
  exact wp_loop_rounds (μ st+1) (key _ st a w B (Nat.lt_succ_self _) sQ X)
end Go.Mini
namespace Go.Mini
open Go
variable {P:Program} {T:ba} {A:Nat->Prop} {dG w:World} {hp B:e7} {mem:Mem} {n kb:Nat} {own:List Nat}
def as6 {a:Act}{st:bc}{r:ResultVar}{dX:oJ}{m:O}(X:hK n A dG hp a st w B)(a3:He P r=some dX)(h:G8 st dX=some m):
  ∃v,((match r with
   |.tmp t=>pure (a.tmps.getD t undef)
   |.cell b t=>do loadVar t (<-asAddr (a.tmps.getD b undef)):Sem Value)).run P w=.ok v w/\bp w (b4 A B) B m v:=by
 cases r with
 |tmp t =>
  simp only[He,cl] at a3;subst a3;simp only[G8,cl] at h;subst h;exact⟨_,rfl,X.tm t⟩
 |cell b t =>
  simp only[He] at a3
  split at a3
  ·rename_i s g e6 zZ;simp only[cl] at a3;subst a3;obtain⟨dr,off,ms,vs,aA,ak,b0,bH,aa⟩:=adf X.ok.dX (X.tm b) h;obtain⟨u,F,G⟩:=ade (P:=P) e6 zZ ak b0 bH aa;refine⟨u,?_,G⟩;have:a.tmps.getD b undef=.pointer (some ⟨dr,off,none⟩):=aA;simp only[this,asAddr,Sem.run_bind,Sem.run_pure,Result.andThen_ok];exact F
  ·cases a3
def aew {a:Act}{st:bc}(X:hK n A dG hp a st w B):∀{l:List ResultVar} {rs:List oJ} {ms:List O},l.mapM (He P)=some rs->rs.mapM (G8 st)=some ms ->
  ∃vs:List Value,(l.mapM λr=>((match r with
   |.tmp t=>pure (a.tmps.getD t undef)
   |.cell b t=>do loadVar t (<-asAddr (a.tmps.getD b undef)):Sem Value))).run P w=.ok vs w/\dg w (b4 A B) B ms vs
 | [],rs,ms,F,G=>by
  simp at F;subst F;simp at G;subst G;exact⟨[],rfl,dg.nil⟩
 |r::l,rs,ms,F,G=>by
  simp only[kr,hi,ho,ek,cl] at F;obtain⟨x,Q,xs,B9,rfl⟩:=F;simp only[kr,hi,ho,ek,cl] at G;obtain⟨m,hm,aMx,aR,rfl⟩:=G;obtain⟨v,aA,aa⟩:=as6 X Q hm;obtain⟨vs,aW,b0⟩:=aew X B9 aR;refine⟨v::vs,?_,dg.cons aa b0⟩;simp only[kr,Sem.run_bind,aA,Result.andThen_ok,aW,Sem.run_pure]
def aex {a:Act}{st:bc}{fn:Func}{rs:List oJ}{m:O}(X:hK n A dG hp a st w B)(a3:fn.results.toList.mapM (He P)=some rs)(h:oL st rs=some m):
  ∃v,(results fn a.tmps).run P w=.ok v w/\bp w (b4 A B) B m v:=by
 unfold oL at h
 have main:∀ms,rs.mapM (G8 st)=some ms->∃vs:List Value,(results fn a.tmps).run P w=.ok (if h:vs.toArray.size=1 then vs.toArray[0] else .tuple vs.toArray) w/\dg w (b4 A B) B ms vs:=by
  intro ms aR;obtain⟨vs,F,G⟩:=aew X a3 aR;refine⟨vs,?_,G⟩;unfold results;rw[Array.mapM_eq_mapM_toList,map_eq_pure_bind];simp only[Sem.run_bind,Sem.run_pure];have z8:=F;generalize aY:(List.mapM _ fn.results.toList:Sem (List Value))=q;have:q.run P w=.ok vs w:=by rw[<-aY];exact z8
  rw[this]
  rfl
 split at h
 ·rename_i x aR;simp only[cl] at h;subst h;obtain⟨vs,F,G⟩:=main _ aR;have ak:=G.1;simp at ak;obtain⟨v,rfl⟩:=aey.1 ak;exact⟨v,F,G.2 0 _ v rfl rfl⟩
 ·rename_i ms bE aR;simp only[cl] at h;subst h;obtain⟨vs,F,G⟩:=main _ aR;have ak:=G.1;refine⟨_,F,?_⟩
  have:¬ (vs.toArray.size=1):=λh=>by
   have cj:(D ms)=1:=by rw[<-ak];simpa using h
   obtain⟨x,rfl⟩:=aey.1 cj;exact bE x rfl
  rw[dif_neg this];exact .cP ak G.2
 ·cases h
def WV (mf:bu)(Post:O->Mem->Prop):eT->bc->Prop
 |.exit _,_=>False
 |_,st=>∃m,oL st mf.res=some m/\Post m st.mem
def Hx (cQ:qF P T)(hm:P.follows .mixedOrders=true){f:FuncId}{fn:Func}{mf:bu}(aK:P.funcs[f]?=some fn)(a3:qz P kb own fn=some { mf with body:=erase mf.body }){args:List O}(og:(D args)<=mf.n)
  {Post:O->Mem->Prop} {K:eT->bc->Prop} (dM:∀e st,K e st->WV mf Post e st) (h:wp T mf.body K ⟨iC args,mem⟩) {A:Nat->Prop} {w:World} {B:e7} {vs:List Value} (bR:fs A w B mem) (aA:dg w (b4 A B) B args vs) :
  Calls P f vs.toArray w λe aT=>∃v m mem' br,e=.returned v/\eE A w B aT br mem'/\bp aT (b4 A br) br m v/\Post m mem':=by
 unfold qz at a3
 split at a3
 ·cases a3
 ·rename_i c ad
  split at a3
  ·rename_i b rs H Ca;simp only[cl,bu.mk.injEq] at a3;obtain⟨aH,aMy,yJ,as7⟩:=a3;have e6:(D vs)=D args:=aA.1;refine calls_of_wp aK ad ?_;rw[as7] at H;refine B8 cQ hm mf.body c K _ ⟨iC args,mem⟩ _ w B H ⟨.refl bR,λs=>?_,?_,rfl⟩ h λe st a aT br l6 X=>?_
   ·simp only[iC,Act.eval,Array.getD_eq_getD_getElem?];rcases iD s (D vs) with aq|ca
    ·have F:args[s]?=some args[s]:=bn (by omega)
     have G:(vs.toArray++Array.replicate (fn.ntmps-vs.toArray.size) undef)[s]?=some vs[s]:=by
      rw[Array.getElem?_append_left (by simpa using aq)];simp[aq]
     rw[F,G];exact aA.2 s _ _ F (bn aq)
    ·rw[mB (by omega),Array.getElem?_append_right (by simpa using ca)]
     have:((Array.replicate (fn.ntmps-vs.toArray.size) undef)[s-vs.toArray.size]?).getD undef=undef:=by
      cases aY:(Array.replicate (fn.ntmps-vs.toArray.size) undef)[s-vs.toArray.size]? with
      |none=>rfl
      |some u =>
       have:=Array.mem_of_getElem? aY;simp at this;simp[this.2]
     rw[this];exact .no
   ·simp;omega
   ·have I:=dM e st l6
    cases e with
    |exit id=>cases I
    |normal =>
     obtain⟨m,oi,aF⟩:=I;obtain⟨v,nf,vy⟩:=aex X Ca (by rw[yJ];exact oi);exact⟨X.Lk,v,nf,v,m,_,br,rfl,X.ok,vy,aF⟩
    |ret =>
     obtain⟨m,oi,aF⟩:=I;obtain⟨v,nf,vy⟩:=aex X Ca (by rw[yJ];exact oi);exact⟨X.Lk,v,nf,v,m,_,br,rfl,X.ok,vy,aF⟩
  ·cases a3
inductive dx where
 |same (r:Data)
 |own (sz:Nat) (es:List (List Data))
def z9 (w:World)(a2:Nat->Prop)(ds:List Data)(vs:List Value):Prop:=D vs=D ds/\∀(i:Nat) (d:Data) (v:Value),ds[i]?=some d->vs[i]?=some v->Den w a2 d v
def as8 (w aT:World)(a2:Nat->Prop):dx->Value->Prop
 |.same r,v=>Den aT a2 r v
 |.own sz es,v=>B3 w aT a2 sz es v
structure qJ (P:Program) (f:FuncId) (aL:List Data->Option dx):Prop where
 real:Real P f
 run:∀ds r,aL ds=some r->∀(A:Nat->Prop) (w:World) (vs:List Value),(∀b,A b->b<w.heap.size)->z9 w A ds vs ->
  Calls P f vs.toArray w λe aT=>∃v,e=.returned v/\Fr (λ_=>False) w aT/\as8 w aT A r v
def aez:dx->O->Mem->Prop
 |.same r,m,mem=>∃d,b5 d mem m=some r
 |.own sz es,m,mem=>(m=.nil/\es=[])\/∃k g len cs ds d,m=.ref k g sz 0 len/\mem k=some (g,cs)/\len*sz<=D cs/\(cs.take (len*sz)).mapM (b5 d (kill mem k))=some ds/\es=chunk sz len ds
def pg (sz:Nat)(mem:Mem):O->Option (List (List Data))
 |.nil=>some []
 |.ref k g et off len=>if et=sz/\off=0 then (match mem k with
  |some (cV,cs)=>if cV=g/\len*sz<=(D cs) then ((cs.take (len*sz)).mapM (b5 6 (kill mem k))).map (chunk sz len) else none
  |none=>none) else none
 |_=>none
def yK (res:List oJ):dx->bc->Prop
 |.same r,st=>(oL st res).bind (b5 6 st.mem)=some r
 |.own sz es,st=>(oL st res).bind (pg sz st.mem)=some es
def vC (res:List oJ)(r:dx):eT->bc->Prop
 |.exit _,_=>False
 |.normal,st=>yK res r st
 |.ret,st=>yK res r st
def aeA {mf:bu}{r:dx}{st:bc}(h:yK mf.res r st):∃m,oL st mf.res=some m/\aez r m st.mem:=by
 cases r with
 |same r =>
  simp only[yK,ek] at h;obtain⟨m,F,G⟩:=h;exact⟨m,F,6,G⟩
 |own sz es =>
  simp only[yK,ek] at h;obtain⟨m,F,G⟩:=h;refine⟨m,F,?_⟩
  cases m<;>simp only[pg,cl,reduceCtorEq] at G
  ·exact .inl ⟨rfl,G.symm⟩
  ·split at G
   ·rename_i H;obtain⟨rfl,rfl⟩:=H
    split at G
    ·rename_i cV cs I
     split at G
     ·rename_i a8;obtain⟨rfl,hle⟩:=a8;simp only[dS] at G;obtain⟨ds,gp,rfl⟩:=G;exact .inr ⟨_,_,_,cs,ds,6,rfl,I,hle,gp,rfl⟩
     ·cases G
    ·cases G
   ·cases G
def as9 {mf:bu}{r:dx}{e:eT}{st:bc}(h:vC mf.res r e st):WV mf (aez r) e st:=by
 cases e with
 |exit id=>exact h
 |normal=>exact aeA h
 |ret=>exact aeA h
def Qx (b:Nat):¬ sD (λ_=>none) b:=fun⟨_,_,h,_⟩=>by cases h
def aeB (cQ : qF P T)(hm : P.follows .mixedOrders = true){f : FuncId}{fn : Func}{mf : bu}(aK : P.funcs[f]? = some fn)(uh : (fn.name == "runtime.NumGoroutine") = false)(a3 : qz P kb own fn = some { mf with body := erase mf.body })
  {aL:List Data->Option dx} (h:∀ds r,aL ds=some r->(D ds)<=mf.n/\wp T mf.body (vC mf.res r) ⟨iC (ds.map .M),emp⟩):qJ P f aL:=by
 refine⟨?_,λds r eW A w vs aq tY=>?_⟩
 ·cases ad:fn.body with
  |none=>simp[qz,ad] at a3
  |some c=>exact⟨fn,c,aK,ad,uh⟩
 ·obtain⟨hlen,xg⟩:=h ds r eW;have bR:fs A w (λ_=>none) emp:=⟨λ_ _=>rfl,λ_ _ _ _ _ h=>(by cases h),λb _ bx=>Qx b bx,aq,λ_ _ _ h=>(by cases h)⟩;have fN:∀b,b4 A (λ_=>none) b->A b:=λb h=>h.elim (λh=>(Qx b h).elim) id;have b0:dg w (b4 A λ_=>none) (λ_=>none) (ds.map .M) vs:=dg.M tY.1 λi d v F G=>(tY.2 i d v F G).less fN;refine Calls.mono (Hx cQ hm aK a3 (by simpa using hlen) (λe st=>as9) xg bR b0) λe aT he=>?_;obtain⟨v,m,mem',br,rfl,X,aA,aF⟩:=he;refine⟨v,rfl,⟨X.aE.os,X.aE.tape,X.aE.output,X.aE.size,λg a8 _=>X.aE.block g a8 (Qx g)⟩,?_⟩
  cases r with
  |same r =>
   obtain⟨d,Y⟩:=aF;exact snap X.dX (λb ad=>ad) d m v r Y aA
  |own sz es =>
   rcases aF with ⟨rfl,rfl⟩|⟨k,g,len,cs,Ek,d,rfl,I,hle,gp,rfl⟩
   ·cases aA;exact⟨by simp,_,0,rfl,bM _,fy _,.inl rfl⟩
   ·obtain⟨F,G⟩:=oM gp;have WW:(D Ek)=len*sz:=by rw[F,gE];omega
    refine⟨Qb sz len Ek WW,?_⟩;rw[Qa,Qc sz len Ek WW]
    cases aA with
    |ref he hgle aa =>
     obtain⟨e,gA,ca,aH,ad⟩:=X.dX.at_ I;rw[gA] at he;obtain rfl:=mD he;obtain⟨a,cap,rfl,af,aS,bt⟩:=aa;refine⟨a,cap,rfl,af,aS,bt.imp id ?_⟩;rintro⟨b,rfl,b2⟩;obtain⟨cb,cN⟩:=b2 ca.symm;obtain⟨oN,ata,aX,aV,Lh,z2⟩:=ad b cb;obtain⟨atb,kO⟩:=kill_shut X.dX I gA cb;refine⟨b,oN,ata,rfl,?_,aX,by simpa [aV] using cN,λi x Q=>?_⟩
     ·rcases X.fresh b ⟨k,_,gA,cb⟩ with h|h
      ·exact (Qx b h).elim
      ·exact h
     ·have aeC:i<D Ek:=(dK.1 Q).1;have lg:i<D cs:=by omega
      have kM:(cs.take (len*sz))[i]?=some cs[i]:=by
       rw[rZ (by omega)];exact bn lg
      have Lu:i<oN.size:=by omega
      refine⟨oN[i],Array.getElem?_eq_getElem Lu,snap atb (λb ad=>ad) d _ _ x (G i _ x kM Q) (kO _ _ (z2.2 i _ _ (bn lg) ?_))⟩;rw[rZ lg,Array.getElem?_toList];exact Array.getElem?_eq_getElem Lu
def scalar:Data->Bool
 |.int _ _=>true
 |.bool _=>true
 |.str _=>true
 |.vj=>true
 |.tN=>true
 |.ay []=>true
 |.cP ds=>ds.attach.all fun⟨d,_⟩=>scalar d
 |.agg ds=>ds.attach.all fun⟨d,_⟩=>scalar d
 |_=>false
def aeD {a2 mv:Nat->Prop}{d:Data}{v:Value}(h:scalar d=true)(Y:Den w a2 d v):Den w mv d v:=by
 induction Y with
 |int=>exact .int
 |bool=>exact .bool
 |str=>exact .str
 |vj=>exact .vj
 |tN=>exact .tN
 |l0=>exact .l0
 | @ay es b off c sz val ak hm ad fN e6 H Y av =>
  cases es with
  |nil=>exact .l0
  |cons=>simp[scalar] at h
 |ptr=>simp[scalar] at h
 |fn=>simp[scalar] at h
 | @agg cs vs ak Y av =>
  simp only[scalar,ld,aeE,true_imp_iff,Subtype.forall] at h;exact .agg ak λi d v F G=>av i d v F G (h d (dZ F))
 | @cP cs vs ak Y av =>
  simp only[scalar,ld,aeE,true_imp_iff,Subtype.forall] at h;exact .cP ak λi d v F G=>av i d v F G (h d (dZ F))
def Ly {a2:Nat->Prop}:∀(d:Nat) (m:O) (v:Value) (r:Data),b5 d emp m=some r->bp w a2 B m v->Den w a2 r v:=by
 intro d
 induction d with
 |zero =>
  intro m v r h aA
  cases m<;>simp only[b5,cl,reduceCtorEq] at h
  ·subst h;cases aA with|M h=>exact h
  ·subst h;cases aA;exact .l0
 |succ d av =>
  intro m v r h aA
  have lists:∀(cs:List O) (vs:List Value) (ds:List Data),cs.mapM (b5 d emp)=some ds->(D vs)=(D cs)->(∀(i:Nat) (x:O) (u:Value),cs[i]?=some x->vs[i]?=some u->bp w a2 B x u) ->
    (D vs)=D ds/\∀(i:Nat) (x:Data) (u:Value),ds[i]?=some x->vs[i]?=some u->Den w a2 x u:=by
   intro cs vs ds gp ak aa;obtain⟨F,G⟩:=oM gp;refine⟨by omega,λi x u Q hu=>?_⟩
   have aq:i<D cs:=by have:=(dK.1 Q).1;omega
   have kM:=bn aq;exact av _ u x (G i _ x kM Q) (aa i _ u kM hu)
  cases m<;>simp only[b5,emp,cl,dS,reduceCtorEq] at h
  case M=>subst h;cases aA with|M h=>exact h
  case nil=>subst h;cases aA;exact .l0
  case fx f cs =>
   obtain⟨ds,gp,rfl⟩:=h
   cases aA with
   |fx ak Y=>obtain⟨F,G⟩:=lists _ _ _ gp ak Y;exact .fn F G
  case agg cs =>
   obtain⟨ds,gp,rfl⟩:=h
   cases aA with
   |agg ak Y=>obtain⟨F,G⟩:=lists _ _ _ gp ak Y;exact .agg F G
  case cP cs =>
   obtain⟨ds,gp,rfl⟩:=h
   cases aA with
   |cP ak Y=>obtain⟨F,G⟩:=lists _ _ _ gp ak Y;exact .cP F G
def Hy:dx->gB
 |.same r => .same r
 |.own sz es => .own sz es
def xh:dx->Option gB
 |.same r=>if scalar r=true then some (.same r) else none
 |.own sz es=>if (es.all λe=>e.all scalar)=true then some (.own sz es) else none
def Lz (aL:List Data->Option dx):Option (List Data)->Option gB
 |some ds=>(aL ds).bind xh
 |none=>none
def Hz (aL:List Data->Option dx):Option (List Data)->Option (List Data)->Option gB
 |some ds,_=>(aL ds).map Hy
 |none,x=>Lz aL x
def aQ (aL:List Data->Option dx)(args:List O)(mem:Mem):Option gB:=Hz aL (args.mapM (b5 6 emp)) (args.mapM (b5 6 mem))
def Cb (l7:FuncId->Option (List Data->Option dx)):ba:=λf args mem=>match l7 f with
 |some aL=>aQ aL args mem
 |none=>none
def WX {a2:Nat->Prop}{g:O->Option Data}{args:List O}{ds:List Data}{vs:List Value}(h:args.mapM g=some ds)(aA:dg w a2 B args vs){mv:Nat->Prop}(Y:∀m v r,g m=some r->bp w a2 B m v->Den w mv r v):z9 w mv ds vs:=by
 obtain⟨F,G⟩:=oM h;refine⟨by rw[aA.1,F],λi d v nB nb=>?_⟩
 have aq:i<D args:=by have:=(dK.1 nB).1;omega
 have Cc:=bn aq;exact Y _ v d (G i _ d Cc nB) (aA.2 i _ v Cc nb)
def aeF {l7:FuncId->Option (List Data->Option dx)}(h:∀f aL,l7 f=some aL->qJ P f aL):qF P (Cb l7):=by
 intro f args mem oe im;unfold Cb at im
 split at im
 ·rename_i aL eW;have jK:=h f aL eW;refine⟨jK.real,λA w B vs bR aA=>?_⟩;unfold aQ at im
  cases gp:args.mapM (b5 6 emp) with
  |some ds =>
   rw[gp] at im;simp only[Hz,dS] at im;obtain⟨r,aa,rfl⟩:=im;have H:=jK.run ds r aa (b4 A B) w vs (λb ad=>ad.elim (λh=>bR.w0 h) (bR.lt b)) (WX gp aA λm v r=>Ly 6 m v r)
   cases r with
   |same r=>exact H
   |own sz es=>exact H
  |none =>
   rw[gp] at im;simp only[Hz] at im
   cases gp:args.mapM (b5 6 mem) with
   |none=>rw[gp] at im;cases im
   |some ds =>
    rw[gp] at im;simp only[Lz,ek] at im;obtain⟨r,aa,ak⟩:=im;have H:=jK.run ds r aa (λ_=>False) w vs (λb ad=>ad.elim) (WX gp aA λm v r h aA=>snap bR (λb ad=>ad.elim) 6 m v r h aA)
    cases r with
    |same r =>
     simp only[xh] at ak
     split at ak
     ·rename_i X
      cases ak;exact Calls.mono H λe aT ⟨v,he,bw,Y⟩=>⟨v,he,bw,aeD X Y⟩
     ·cases ak
    |own sz es =>
     simp only[xh] at ak
     split at ak
     ·rename_i X
      cases ak;refine Calls.mono H λe aT ⟨v,he,bw,Y⟩=>⟨v,he,bw,?_⟩;obtain⟨F,a,cap,G,af,aS,bt⟩:=Y;refine⟨F,a,cap,G,af,aS,bt.imp id ?_⟩;rintro⟨b,vs,T,b2,cb,cN,jL,g3⟩;refine⟨b,vs,T,b2,cb,cN,jL,λi d Y=>?_⟩;obtain⟨u,hu,tY⟩:=g3 i d Y;refine⟨u,hu,aeD ?_ tY⟩;have hm:=dZ Y;rw[adE] at hm;obtain⟨e,he,atc⟩:=hm;rw[ld] at X;have:=X e he;rw[ld] at this;exact this d atc
     ·cases ak
 ·cases im
end Go.Mini
namespace Go.Mini
open Go
def HA {ι:Type}(T:ba)(cZ:ι->bc->Prop)(m:ι->Nat)(i:ι)(K:eT->bc->Prop)(k:List gG):eT->bc->Prop
 |.normal,st=>∃bj,m bj<m i/\cZ bj st
 |.exit id,st=>cw T K k (.exit id) st
 |.ret,st=>cw T K k .ret st
@[go_sem] def aMz {ι:Type}(T:ba)(cZ:ι->bc->Prop)(m:ι->Nat)(i:ι)(K:eT->bc->Prop)(k:List gG)(id:Nat)(st:bc):HA T cZ m i K k (.exit id) st=cw T K k (.exit id) st:=bq
@[go_sem] def aMA {ι:Type}(T:ba)(cZ:ι->bc->Prop)(m:ι->Nat)(i:ι)(K:eT->bc->Prop)(k:List gG)(st:bc):HA T cZ m i K k .ret st=cw T K k .ret st:=bq
@[go_sem] def atd {ι:Type}(T:ba)(cZ:ι->bc->Prop)(m:ι->Nat)(i:ι)(K:eT->bc->Prop)(k:List gG)(st:bc):HA T cZ m i K k .normal st=∃bj,m bj<m i/\cZ bj st:=bq
open Classical in
def ate {ι:Type}{T:ba}{K:eT->bc->Prop}{k:List gG}{st:bc}{c:eh}(cZ:ι->bc->Prop)(m:ι->Nat)(i0:ι)(au:cZ i0 st)(h:∀i st,cZ i st->wp T c (cw T (HA T cZ m i K k) []) st):
  wp T (.loop c) (cw T K k) st:=by
 have least:∀st,(∃i,cZ i st)->∃i,cZ i st/\∀j,cZ j st->m i<=m j:=by
  intro st ⟨i,J⟩
  have:∀n i,m i=n->cZ i st->∃i,cZ i st/\∀j,cZ j st->m i<=m j:=by
   intro n
   induction n using Lq with
   |_ n av =>
    intro i aH J
    by_cases Q:∃j,cZ j st/\m j<m i
    ·obtain⟨j,ag,aq⟩:=Q;exact av (m j) (by omega) j rfl ag
    ·refine⟨i,J,λj ag=>?_⟩;rcases iD (m j) (m i) with cj|cj
     ·exact absurd ⟨j,ag,cj⟩ Q
     ·exact cj
  exact this _ i rfl J
 refine⟨λst=>∃i,cZ i st,λst=>if Q:∃i,cZ i st then m (vD (least st Q)) else 0,⟨i0,au⟩,λst c9=>?_⟩;have ja:=oP (least st c9);have:=h _ st ja.1
 have I:cw T (HA T cZ m (vD (least st c9)) K k) []=λe dQ=>match e with
   |.normal=>(∃i,cZ i dQ)/\(if Q:∃i,cZ i dQ then m (vD (least dQ Q)) else 0)<(if Q:∃i,cZ i st then m (vD (least st Q)) else 0)
   |e=>cw T K k e dQ:=by
  funext e dQ
  cases e with
  |normal =>
   simp only[ar3,atd];apply propext
   constructor
   ·rintro⟨bj,aq,ag⟩;have hex:∃i,cZ i dQ:=⟨bj,ag⟩;refine⟨hex,?_⟩;rw[dif_pos hex,dif_pos c9];have:=(oP (least dQ hex)).2 bj ag;omega
   ·rintro⟨hex,aq⟩;rw[dif_pos hex,dif_pos c9] at aq;exact⟨_,aq,(oP (least dQ hex)).1⟩
  |exit id=>rfl
  |ret=>rfl
 rw[I] at this;exact this
section
variable {aL:List Data->Option dx} {mem:Mem} {st:bc} {res:List oJ}
@[go_sem] def aMB (ds:List Data)(x:Option (List Data)):Hz aL (some ds) x=(aL ds).map Hy:=bq
@[go_sem] def aMC (x:Option (List Data)):Hz aL none x=Lz aL x:=bq
@[go_sem] def aMD (ds:List Data):Lz aL (some ds)=(aL ds).bind xh:=bq
@[go_sem] def aME (r:Data):Hy (.same r)=.same r:=bq
@[go_sem] def aMF (sz:Nat)(es:List (List Data)):Hy (.own sz es)=.own sz es:=bq
@[go_sem] def aMG (r:Data):xh (.same r)=if scalar r=true then some (.same r) else none:=bq
@[go_sem] def LA (n:Nat)(d:Data):b5 n mem (.M d)=some d:=by cases n<;>rfl
@[go_sem] def atf (n:Nat):b5 n mem .nil=some (.ay []):=by cases n<;>rfl
@[go_sem] def aMH (n:Nat)(cs:List O):b5 (n+1) mem (.agg cs)=(cs.mapM (b5 n mem)).map .agg:=bq
@[go_sem] def aMI (n:Nat)(cs:List O):b5 (n+1) mem (.cP cs)=(cs.mapM (b5 n mem)).map .cP:=bq
@[go_sem] def atg (n:Nat)(f:FuncId)(cs:List O):b5 (n+1) mem (.fx f cs)=(cs.mapM (b5 n mem)).map (.fn f):=bq
@[go_sem] def aMJ (r:dx)(id:Nat):vC res r (.exit id) st=False:=bq
@[go_sem] def aMK (r:dx):vC res r .ret st=yK res r st:=bq
@[go_sem] def aML (r:dx):vC res r .normal st=yK res r st:=bq
@[go_sem] def aMM (r:Data):yK res (.same r) st=((oL st res).bind (b5 6 st.mem)=some r):=bq
@[go_sem] def aMN (sz:Nat)(es:List (List Data)):yK res (.own sz es) st=((oL st res).bind (pg sz st.mem)=some es):=bq
end
@[go_sem] def aMO (x:Bool):Qg (.M (.bool x)) true=some x:=by cases x<;>rfl
@[go_sem] def aMP (x:Bool):Qg (.M (.bool x)) false=some (!x):=by cases x<;>rfl
attribute [go_sem] eu List.map_nil xe yC hQ List.length_nil List.drop_zero vx l3 ng iY WG ks
 kr List.mapM_nil hi ho ik List.cons_append w7 List.drop_nil List.take_nil cF Bool.not_false Bool.or_true qG Bool.or_false rY Bool.and_true Bool.true_and Bool.and_false Bool.false_and BZ List.all_nil true_and and_true lD bne
section
variable {T:ba} {K:eT->bc->Prop} {k:List gG} {st:bc}
def ath {x:Bool}{i:cq}{r:List cq}(F:x=false->rU T K k (some true) i r st)(G:x=true->rU T K k (some false) i r st):rU T K k (some (!x)) i r st:=by
 cases x
 ·exact F rfl
 ·exact G rfl
def ati {x:Bool}{i:cq}{r:List cq}(F:x=true->rU T K k (some true) i r st)(G:x=false->rU T K k (some false) i r st):rU T K k (some x) i r st:=by
 cases x
 ·exact G rfl
 ·exact F rfl
def atj {x:Bool}{n:Nat}{i:cq}{r:List cq}{c:List (List Nat)}{rec:Rec}(F:x=false->rV T K k n (some true) i r c rec st)(G:x=true->rV T K k n (some false) i r c rec st):rV T K k n (some (!x)) i r c rec st:=by
 cases x
 ·exact F rfl
 ·exact G rfl
def atk {x:Bool}{n:Nat}{i:cq}{r:List cq}{c:List (List Nat)}{rec:Rec}(F:x=true->rV T K k n (some true) i r c rec st)(G:x=false->rV T K k n (some false) i r c rec st):rV T K k n (some x) i r c rec st:=by
 cases x
 ·exact G rfl
 ·exact F rfl
def atl {x:Bool}{a b:eh}(F:x=false->qE T K k (.M (.bool true)) a b st)(G:x=true->qE T K k (.M (.bool false)) a b st):qE T K k (.M (.bool (!x))) a b st:=by
 cases x
 ·exact F rfl
 ·exact G rfl
def atm {x:Bool}{a b:eh}(F:x=true->qE T K k (.M (.bool true)) a b st)(G:x=false->qE T K k (.M (.bool false)) a b st):qE T K k (.M (.bool x)) a b st:=by
 cases x
 ·exact G rfl
 ·exact F rfl
end
class Em (bC:Prop) (A B:outParam Prop):Prop where
 go:A->B->bC
def ah {bC A B:Prop}[s:Em bC A B](a:A)(b:B):bC:=s.go a b
def ai {bC:Prop}(h:true=true->bC):bC:=h rfl
instance {T K k i r st} {x:Bool}:Em (rU T K k (some x) i r st) (x=true->rU T K k (some true) i r st) (x=false->rU T K k (some false) i r st):=⟨ati⟩
instance {T K k i r st} {x:Bool}:Em (rU T K k (some (!x)) i r st) (x=false->rU T K k (some true) i r st) (x=true->rU T K k (some false) i r st):=⟨ath⟩
instance {T K k st a b} {x:Bool}:Em (qE T K k (.M (.bool x)) a b st) (x=true->qE T K k (.M (.bool true)) a b st) (x=false->qE T K k (.M (.bool false)) a b st):=⟨atm⟩
instance {T K k st a b} {x:Bool}:Em (qE T K k (.M (.bool (!x))) a b st) (x=false->qE T K k (.M (.bool true)) a b st) (x=true->qE T K k (.M (.bool false)) a b st):=⟨atl⟩
instance {T K k n i r c rec st} {x:Bool}:Em (rV T K k n (some x) i r c rec st) (x=true->rV T K k n (some true) i r c rec st) (x=false->rV T K k n (some false) i r c rec st):=⟨atk⟩
instance {T K k n i r c rec st} {x:Bool}:Em (rV T K k n (some (!x)) i r c rec st) (x=false->rV T K k n (some true) i r c rec st) (x=true->rV T K k n (some false) i r c rec st):=⟨atj⟩
attribute [go_sem] reduceIte Nat.reduceEqDiff Nat.reduceAdd Nat.reduceSub Nat.reduceMul Nat.reduceLeDiff reduceCtorEq Nat.reduceLT Nat.reduceBEq Int.reduceEq
attribute [go_sem] lD
end Go.Mini
